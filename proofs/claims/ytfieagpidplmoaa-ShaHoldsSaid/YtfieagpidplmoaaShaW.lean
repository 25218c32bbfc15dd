/- The walk of ShaHolds. -/
import Derived.Test.YtfieagpidplmoaaBox
import Derived.Test.YtfieagpidplmoaaCutS
import Derived.Test.YtfieagpidplmoaaShaV
namespace Go.Proofs.Ytfieagpidplmoaa
open Go.RowKit Go.Shelf
attribute [local go_sem] Oper.semAt_some

def HI (w : World) (k7 : Nat) (L : List Int) (_ : Nat → Prop) (pre : List BlkP) (W : World) : Prop :=
  Blk .u32 W (w.heap.size + 1) 29 (rowI 8 (foldMix pre)) ∧ (∃ f : Nat → BitVec 32, Blk .u32 W k7 30 (rowI 16 f)) ∧ Blk .u32 W w.heap.size 42 L ∧ Below w.heap.size w W
theorem hi_stable (w : World) (k7 B : Nat) (L : List Int) (hB : w.heap.size + 1 < B) (hk : k7 < B) : Stable B (HI w k7 L) := by
  rintro O O' s W W' ⟨h1, ⟨f, h2⟩, h3, h4⟩ hO hon -
  exact ⟨h1.only hon (fun h => by have := hO _ h; omega), ⟨f, h2.only hon (fun h => by have := hO _ h; omega)⟩, h3.only hon (fun h => by have := hO _ h; omega), hon.below h4 h4.size (fun i h => by have := hO i h; omega)⟩

def partF (f g : Nat → BitVec 32) (i : Nat) : Nat → BitVec 32 := fun j => if j < i then g j else f j
def lessF (l fk : Nat → BitVec 32) : Nat → BitVec 32 := fun j => sub32 (mixF l fk numB j) (l j)
theorem part_zero (f g : Nat → BitVec 32) : rowI 8 (partF f g 0) = rowI 8 f := allL_congr fun j _ => by simp [partF]
theorem part_all (f g : Nat → BitVec 32) : rowI 8 (partF f g 8) = rowI 8 g := allL_congr fun j hj => by simp [partF, hj]
theorem part_get (f g : Nat → BitVec 32) (i : Nat) (hi : i < 8) : (rowI 8 (partF f g i))[i]'(by rw [rowI_len]; exact hi) = iv32 (f i) := by rw [rowI_get]; simp [partF]
theorem part_succ (f g : Nat → BitVec 32) (i : Nat) (hi : i < 8) : (rowI 8 (partF f g i)).set i (iv32 (g i)) = rowI 8 (partF f g (i + 1)) := by
  apply List.ext_getElem
  · simp [rowI_len]
  · intro j h1 h2
    rw [List.getElem_set, rowI_get, rowI_get]
    by_cases h : i = j
    · subst h; simp [partF]
    · rw [if_neg h]
      unfold partF
      by_cases h' : j < i
      · rw [if_pos h', if_pos (by omega)]
      · rw [if_neg h', if_neg (by omega)]

set_option maxRecDepth 100000 in
set_option maxHeartbeats 8000000 in
theorem shaHolds_go (bs : List (BitVec 8)) (a : Option Addr) (c : Nat) (L : List Int) (l0 l1 : Nat → BitVec 32) (w : World) (hl : bs.length ≤ 300) (hr : RowAt .u8 w a (bs.map iv8)) (ha : a = none → c = 0) (hL : L = rowI 8 l0 ++ rowI 8 l1) :
    Calls Try.prog 6 #[.slice a bs.length c, .agg (L.map (Value.int .u32)).toArray] w (Yes w) := by
  have hLl : L.length = 16 := by rw [hL, List.length_append, rowI_len, rowI_len]
  have hlb : ¬ ((bs.length : Int) > 300) := by omega
  have hlm : bs.length < 1000000 := by omega
  have hpm := padL_mod bs
  have hpl := padL_len bs
  have hpn := padN_lt bs.length
  obtain ⟨nb, hnb⟩ : ∃ nb, (padL bs).length = 64 * nb := ⟨(padL bs).length / 64, by omega⟩
  have hnbl : nb < 1000 := by omega
  have hnb0 : 0 < nb := by omega
  have hB0 := fun W h => blocks_any bs a c W h ha hlm
  have hsumF : sumF bs = sumTo (padL bs) nb := by unfold sumF; rw [hnb, Nat.mul_div_cancel_left _ (by decide)]
  clear hpm hpl hpn
  generalize padL bs = pd at hnb hB0 hsumF
  have hb2 : Below w.heap.size w ((w.alloc (Obj.cells (L.map (Value.int .u32)).toArray 42)).alloc (Obj.cells ((List.replicate 8 0).map (Value.int .u32)).toArray 29)) := xalloc (xalloc (xrefl w) _) _
  have hL2 := (Blk.new (q := .u32) w 42 L).alloc (Obj.cells ((List.replicate 8 0).map (Value.int .u32)).toArray 29)
  have hH2 := Blk.new' (q := .u32) (w.alloc (Obj.cells (L.map (Value.int .u32)).toArray 42)) (w.heap.size + 1) 29 (List.replicate 8 0) (by simp)
  obtain ⟨w2, hw2⟩ : ∃ w2, (w.alloc (Obj.cells (L.map (Value.int .u32)).toArray 42)).alloc (Obj.cells ((List.replicate 8 0).map (Value.int .u32)).toArray 29) = w2 := ⟨_, rfl⟩
  rw [hw2] at hb2 hL2 hH2
  have s2 : w2.heap.size = w.heap.size + 2 := by rw [← hw2]; simp
  have hLc0 : ∀ i (h : i < 8), L[i]'(by omega) = iv32 (l0 i) := fun i h => by
    subst hL
    rw [List.getElem_append_left (by rw [rowI_len]; exact h), rowI_get]
  have hLc1 : ∀ i (h : i < 8), L[8 + i]'(by omega) = iv32 (l1 i) := fun i h => by
    subst hL
    rw [List.getElem_append_right (by rw [rowI_len]; omega), rowI_get]
    simp [rowI_len]
  replace hLc0 := Lib.hid hLc0
  replace hLc1 := Lib.hid hLc1
  replace hr := Lib.hid hr
  replace hB0 := Lib.hid hB0
  replace hnb := Lib.hid hnb
  replace hL := Lib.hid hL
  replace hLl := Lib.hid hLl
  replace hL2 := Lib.hid hL2
  replace hH2 := Lib.hid hH2
  replace hsumF := Lib.hid hsumF
  replace hw2 := Lib.hid hw2
  replace s2 := Lib.hid s2
  replace ha := Lib.hid ha
  refine (callsIn_wide (n := 0)).1 ?_
  refine callsIn_of_wp_marks Try.func6 rfl trivial ?_ rfl
  simp only [Try.ntmps6, List.size_toArray, List.length_cons, List.length_nil, Nat.reduceAdd, Nat.reduceSub, Array.replicate_succ, Array.replicate_zero, List.push_toArray, List.append_toArray, List.nil_append, List.cons_append]
  refine wpIn_wide.2 ?_
  go_upto_region 4 with fail
  refine wp_world (w' := w2) hw2.out ?_
  clear hw2
  go_wp2
  go_loopw [6] (fun iv wx => ∃ i : Nat, i ≤ 8 ∧ iv = .int .i64 i ∧ Hid (Blk .u32 wx w.heap.size 42 L) ∧ Blk .u32 wx (w.heap.size + 1) 29 (fillL 8 begI i) ∧ Below w.heap.size w wx ∧ w.heap.size + 1 < wx.heap.size) (fun iv _ => 8 - (intOf iv).toNat)
  case atStart => exact ⟨0, by omega, rfl, hL2, by rw [fillL_zero]; exact hH2.out, hb2, by rw [s2.out]; omega⟩
  case round =>
    clear hL2 hH2 hb2 s2
    obtain ⟨i, hi, rfl, hLb, hH, hbw, hsz⟩ := hrel
    by_cases hlt : i < 8
    · obtain ⟨h1, h2, h3, h4⟩ := begs_ok i hlt
      have h3' := h3
      have hbi : begI i = (begF i : Int) := rfl
      obtain ⟨B, hB⟩ : ∃ B, B = begF i := ⟨_, rfl⟩
      rw [← hB] at h3' h4 hbi
      replace hbi := Lib.hid hbi
      clear hB
      replace h3' := Lib.hid h3'
      clear h3
      replace h1 := Lib.hid h1
      go_wp2_with (first
        | (go_at_call 19; refine (refPrime_any _ _ _ h1.out (by omega)).mono ?_; rintro e w' ⟨rfl, rfl⟩)
        | (go_at_call 18; refine (refRoot_any _ 2 _ (.inl rfl) h2).mono ?_; rintro e w5 ⟨rfl, hb5⟩; rw [h3'.out]; have hH5 := hH.below hb5; have hfr := hH5.frozen i; have hcl := hH5.cell i (by rw [fillL_len]; exact hlt)))
      have hset := hH5.set i (begI i)
      rw [fillL_succ 8 begI i, hbi.out] at hset
      exact ⟨⟨i + 1, by omega, rfl, Lib.hid ((hLb.out.below hb5).oth _ (by omega)), hset, xsetb (xtrans hbw hb5) (by omega) _, by have := hb5.size; simp [World.setCell]; omega⟩, by simp [intOf]; omega⟩
    · have hi8 : i = 8 := by omega
      subst hi8
      rw [fillL_all _ _ _ (by omega), show allL 8 begI = rowI 8 begB from allL_congr fun i hi => (begB_iv i hi).symm] at hH
      clear hlt
      have hzl : ∀ W : World, Blk .u32 (W.alloc (Obj.cells ((List.replicate 16 0).map (Value.int .u32)).toArray 30)) W.heap.size 30 (List.replicate 16 0) := fun W => Blk.new W _ _
      have hK7 := hzl wr
      have hx7 := xalloc (xrefl wr) (Obj.cells ((List.replicate 16 0).map (Value.int .u32)).toArray 30)
      obtain ⟨w7, hw7⟩ : ∃ w7, wr.alloc (Obj.cells ((List.replicate 16 0).map (Value.int .u32)).toArray 30) = w7 := ⟨_, rfl⟩
      rw [hw7] at hK7 hx7
      have hL7 := hLb.out.below hx7
      have hH7 := hH.below hx7
      have hb7 := xtrans hbw hx7
      have s7 : wr.heap.size < w7.heap.size := by rw [← hw7, World.size_alloc]; omega
      obtain ⟨k7, hk7⟩ : ∃ k7, k7 = wr.heap.size := ⟨_, rfl⟩
      have hk7B : w.heap.size + 1 < k7 := by omega
      rw [← hk7] at hK7 s7
      clear hzl hx7 hLb hH hbw
      replace hk7 := Lib.hid hk7
      replace hw7 := Lib.hid hw7
      replace hL7 := Lib.hid hL7
      replace hH7 := Lib.hid hH7
      replace hK7 := Lib.hid hK7
      go_upto_region 9 with fail
      refine wp_world (w' := w7) hw7.out ?_
      rw [← hk7.out]
      clear hw7 hk7
      go_wp2_with (go_at_call 16; refine (hB0.out _ (hr.out.below hb7)).mono ?_; rintro e w4 ⟨bx, qa, qc, rfl, hc4, hr4, hge4, hbx4, hqc, hqc2, hb4⟩; have hnil := fun W => run_eql_fn_nil (P := Try.prog) 39 (by kernel_rfl) (.func 32) #[] #[.pointer (some ⟨bx, 0, none⟩)] W)
      obtain ⟨qb, qo, rfl, -⟩ := hr4 0 (by rw [List.length_map, hnb.out]; omega)
      have hge := hge4 _ rfl
      simp only at hge
      have hqb : qb < w4.heap.size := by
        obtain ⟨b', o', e1, e2⟩ := hr4 0 (by rw [List.length_map, hnb.out]; omega)
        cases e1
        exact cell_lt e2
      have g4 := hb4.size
      have hL4 := hL7.out.below hb4
      have hH4 := hH7.out.below hb4
      have hK4 := hK7.out.below hb4
      have hbw4 := xtrans hb7 hb4
      have hK0 : Blk .u32 w4 k7 30 (rowI 16 (fun _ => 0)) := hK4
      have hF0 : Blk .u32 w4 (w.heap.size + 1) 29 (rowI 8 (foldMix [])) := hH4
      have h00 : HI w k7 L (fun _ => False) [] w4 := ⟨hF0, ⟨_, hK0⟩, hL4, hbw4⟩
      have hst := hi_stable w k7 w4.heap.size L (by omega) (by omega)
      replace hr4 := Lib.hid hr4
      replace hqc := Lib.hid hqc
      replace h00 := Lib.hid h00
      clear hK0 hF0 hL4 hH4 hK4 hL7 hH7 hK7 hbw4 hb4 hb7 hB0 hge4
      refine wp_mid 2 (fun a a' W' => ∃ D, a' = { a with defers := { target := .collected D, args := #[] } :: a.defers } ∧ w4.heap.size ≤ D ∧ W'.heap[D]? = some (.deferred (some [])) ∧ Blk .u32 W' (w.heap.size + 1) 29 (rowI 8 (sumTo pd nb)) ∧ (∃ f : Nat → BitVec 32, Blk .u32 W' k7 30 (rowI 16 f)) ∧ Blk .u32 W' w.heap.size 42 L ∧ Below w.heap.size w W') ?range ?rest (fun _ _ h => h)
      case range =>
        refine (wpIn_wide (n := 0)).1 ?_
        refine wp_rangeB (gf := 32) (lb := #[.pointer (some ⟨bx, 0, none⟩)]) rfl (enters_of Try.func32 (by kernel_rfl) rfl) (encs := encB) (Rd := fun k => k = qb)
          (S := fun xs => xs = (List.range nb).map (blkAt pd)) (Sp := fun pre => ∃ k, k ≤ nb ∧ pre = (List.range k).map (blkAt pd)) (N := nb + 1) (inf := false) (fun k h => by omega)
          (fun W1 hb1 => blocks_seq pd bx qb qo qc nb W1 hnb.out (by omega) (cbel hb1 hc4) (hr4.out.below hb1) hqc.out hqc2 (by have := hb1.size; omega)) (fun x => rfl) (HI w k7 L) (fun _ _ _ _ => False) hst (fun _ _ _ _ _ _ h _ _ _ => h) h00.out (fun h => by cases h) ?round ?done ?stop
        case round =>
          rintro l1 O pre x1 W1 hOl hO ⟨h1, ⟨fk, h2⟩, h3, h4⟩ hlen
          obtain ⟨at', f⟩ := x1
          have hmix := fun W => mix_any (foldMix pre) f W
          rw [← foldMix_snoc pre (at', f)] at hmix
          unfold arrV at hmix
          unfold encB arrV
          dsimp only
          have hRl : (rowI 16 f).length = 16 := rowI_len 16 f
          have hKl : (rowI 16 fk).length = 16 := rowI_len 16 fk
          obtain ⟨RB, hRB⟩ : ∃ RB, RB = rowI 16 f := ⟨_, rfl⟩
          rw [← hRB] at hRl hmix ⊢
          generalize rowI 16 fk = KA at h2 hKl
          replace hRB := Lib.hid hRB
          replace hRl := Lib.hid hRl
          replace hKl := Lib.hid hKl
          replace hmix := Lib.hid hmix
          have hRi : Hid ((Try.prog.info? 30).map (·.size) = some RB.length) := Lib.hid (by rw [hRl.out]; kernel_rfl)
          have hz := Lib.hid (Blk.new (q := .u32) W1 30 (List.replicate 16 0))
          gi_wp2_with (refine wpListIn_store_blk rfl 30 _ _ rfl W1.heap.size rfl .u32 30 (List.replicate 16 0) RB hz.out rfl (by rw [hRl.out, List.length_replicate]) hRi.out ?_; intro W3 hx3 ho3)
          have hb3 : Below W1.heap.size W1 W3 := ho3.below (xalloc (xrefl W1) _) (by rw [World.size_alloc]; omega) (by rintro i rfl; omega)
          refine ⟨Below.keep hb3, fun W2 hon => ?_⟩
          have hl4 : w4.heap.size ≤ l1 := (hO l1 hOl).1
          have hlW := (hO l1 hOl).2
          have hs3 := hb3.size
          have hH2 := (h1.below hb3).only hon (by omega)
          have hK2 := (h2.below hb3).only hon (by omega)
          have hL2 := Lib.hid ((h3.below hb3).only hon (by omega))
          have hx2 := hx3.only hon (by omega)
          have hb2 := Lib.hid (hon.below (xtrans h4 hb3) (xtrans h4 hb3).size (by rintro i rfl; omega))
          have hOo : Hid (∀ k, (O k ∨ k = qb) → k ≠ w.heap.size + 1 ∧ k ≠ k7 ∧ w.heap.size ≤ k) := Lib.hid fun k h => by
            rcases h with h | h
            · have := (hO k h).1; omega
            · omega
          have hx2lt := hx3.lt
          have hxw : Hid (W1.heap.size ≠ k7 ∧ W1.heap.size ≠ w.heap.size + 1) := Lib.hid (by omega)
          generalize hlFa : rowI 8 (foldMix pre) = FA at hH2 hmix
          have hFAl : FA.length = 8 := by rw [← hlFa, rowI_len]
          have hFBl : (rowI 8 (foldMix (pre ++ [(at', f)]))).length = 8 := rowI_len _ _
          have hFA : (Try.prog.info? 29).map (·.size) = some FA.length := by rw [hFAl]; kernel_rfl
          have hFB : (Try.prog.info? 29).map (·.size) = some (rowI 8 (foldMix (pre ++ [(at', f)]))).length := by rw [hFBl]; kernel_rfl
          generalize hFb : rowI 8 (foldMix (pre ++ [(at', f)])) = FB at hmix hFBl hFB
          replace hlFa := Lib.hid hlFa
          replace hFb := Lib.hid hFb
          replace hFA := Lib.hid hFA
          replace hFB := Lib.hid hFB
          replace hFAl := Lib.hid hFAl
          replace hFBl := Lib.hid hFBl
          clear h1 h2 h3 h4 hz hx3 ho3 hon hb3
          gi_wp2_with (first
            | (refine wpListIn_load_blk rfl 30 _ rfl W1.heap.size rfl .u32 30 RB _ _ hx2 Try.underlying30 hRi.out ?_)
            | (refine wpListIn_store_blk rfl 30 _ _ rfl k7 rfl .u32 30 KA RB hK2 rfl (by rw [hKl.out, hRl.out]) hRi.out ?_; intro Wk hKk hok; have hHk := hH2.only hok (by omega); have hxk := hx2.only hok (fun e => hxw.out.1 e))
            | (refine wpListIn_load_blk rfl 29 _ rfl (w.heap.size + 1) rfl .u32 29 FA _ _ hHk Try.underlying29 hFA.out ?_)
            | (refine wpListIn_load_blk rfl 30 _ rfl W1.heap.size rfl .u32 30 RB _ _ hxk Try.underlying30 hRi.out ?_)
            | (refine ⟨trivial, rfl, ?_⟩; gi_at_call 11; refine (CallsIn.inRound l1 (callsIn_wide.2 (hmix.out _))).mono ?_; rintro e W5 ⟨rfl, hb5⟩)
            | (refine wpListIn_store_blk rfl 29 _ _ rfl (w.heap.size + 1) rfl .u32 29 FA FB (hHk.below hb5) rfl (by rw [hFAl.out, hFBl.out]) hFB.out ?_; intro W6 h6 ho6))
          have hks := hok.size
          have hs5 := hb5.size
          refine ⟨?_, by rw [hFb.out]; exact h6, ⟨f, by rw [← hRB.out]; exact (hKk.below hb5).only ho6 (by omega)⟩, ((hL2.out.only hok (by omega)).below hb5).only ho6 (by omega), ?_⟩
          · exact (show Keep _ W2 Wk from ⟨hok.size, fun k hk h => hok.same k hk (fun e => (hOo.out k h).2.1 e)⟩).trans ((Below.keep hb5).trans ⟨ho6.size, fun k hk h => ho6.same k hk (fun e => (hOo.out k h).1 e)⟩)
          · have b1 := hok.below hb2.out hb2.out.size (by rintro i rfl; omega)
            have b2 := xtrans b1 hb5
            exact ho6.below b2 b2.size (by rintro i rfl; omega)
        case done =>
          rintro D xs O W hD hOD hO rfl ⟨h1, h2, h3, h4⟩ hK
          rw [foldMix_range] at h1
          exact ⟨.inl rfl, D, rfl, hD, hK, h1, h2, h3, h4⟩
        case stop =>
          rintro D c pre O W hD hOD hO _ h
          exact h.elim
      case rest =>
        rintro _ W6 ⟨D, rfl, hDv, hK, hH, ⟨fk, hK7⟩, hLb, hbw⟩
        dsimp only
        have hrows := fun W (h : RowAt .u8 W a (bs.map iv8)) => show RowsAt (W.alloc (.cells #[.slice a bs.length c] 22)) W.heap.size 0 [(a, c, bs.map iv8)] from by
          have := rowsAt_new W 22 [(a, c, bs.map iv8)] (by simp; exact ⟨h, ha.out⟩)
          simpa using this
        have hsum := fun W q (h : RowsAt W q 0 [(a, c, bs.map iv8)]) => sum_any bs (.slice (some ⟨q, 0, none⟩) 1 1) [(a, c, bs.map iv8)] W (by simp [joined]) (by simp) (by omega) (.inr ⟨q, 0, rfl, h⟩)
        have hrw := hrows W6 (hr.out.below hbw)
        have hS1 := hsum _ _ hrw
        unfold arrV at hS1
        rw [hsumF.out] at hS1
        generalize sumTo pd nb = H at hH hS1
        have hDl : (digL H).length = 32 := allL_len _ _
        have hDg : ∀ i (hi : i < 32), (digL H)[i]'(by rw [hDl]; exact hi) = iv8 (digF H i) := fun i hi => allL_get _ _ _ _
        obtain ⟨DL, hDL⟩ : ∃ DL, DL = digL H := ⟨_, rfl⟩
        rw [← hDL] at hS1
        have hx6 := xalloc (xrefl W6) (Obj.cells #[Value.slice a bs.length c] 22)
        have hH6 := Lib.hid (hH.below hx6)
        have hK6 := Lib.hid (hK7.below hx6)
        have hL6 := Lib.hid (hLb.below hx6)
        have hb6 := Lib.hid (xtrans hbw hx6)
        have hd6 := Lib.hid ((hx6.block D (Array.getElem?_eq_some_iff.1 hK).1).trans hK)
        have hDlt : D < W6.heap.size := (Array.getElem?_eq_some_iff.1 hK).1
        have hDlen : DL.length = 32 := by rw [hDL, hDl]
        have hDget : ∀ i (h : i < DL.length), DL[i] = iv8 (digF H i) := fun i h => by subst hDL; exact hDg i (by omega)
        clear hrows hsum hrw hx6 hH hK7 hLb hbw hK hDl hDg
        replace hDL := Lib.hid hDL
        replace hDlen := Lib.hid hDlen
        replace hDget := Lib.hid hDget
        replace hS1 := Lib.hid hS1
        have hz := Lib.hid (fun W : World => Blk.new (q := .u8) W 24 (List.replicate 32 0))
        go_wp2_with (first
          | (go_at_call 9; refine hS1.out.mono ?_; rintro e w8 ⟨rfl, hb8⟩)
          | (refine wpList_store_blk rfl 24 _ _ rfl w8.heap.size rfl .u8 24 (List.replicate 32 0) DL (hz.out w8) rfl (by rw [hDlen.out, List.length_replicate]) (by rw [hDlen.out]; kernel_rfl) ?_; intro w9 hD9 ho9))
        have s8 := hb8.size
        rw [World.size_alloc] at s8
        have h89 : ∀ {q T l b}, Blk q w8 b T l → Blk q w9 b T l := fun h => (h.alloc _).only ho9 (by have := h.lt; omega)
        have hH9 := h89 (hH6.out.below hb8)
        have hK9 := h89 (hK6.out.below hb8)
        have hL9 := h89 (hL6.out.below hb8)
        have hb9 : Below w.heap.size w w9 := ho9.below (xalloc (xtrans hb6.out hb8) _) (xalloc (xtrans hb6.out hb8) _).size (by rintro i rfl; have := hb6.out.size; rw [World.size_alloc] at this; omega)
        have hd9 : w9.heap[D]? = some (.deferred (some [])) := (ho9.same D (by rw [World.size_alloc]; omega) (by omega)).trans ((Below.heap_alloc _ _ _ (by omega)).trans ((hb8.block D (by rw [World.size_alloc]; omega)).trans hd6.out))
        obtain ⟨k11, hk11⟩ : ∃ k11, k11 = w8.heap.size := ⟨_, rfl⟩
        have hk11lt : W6.heap.size < k11 := by omega
        rw [← hk11] at hD9 ⊢
        clear h89 ho9 hk11 hb8 s8 hH6 hK6 hL6 hb6 hd6 hS1 hz
        replace hk11lt := Lib.hid hk11lt
        replace hDlt := Lib.hid hDlt
        have hkne : k11 ≠ w.heap.size + 1 := by have := hk11lt.out; have := hb9.size; intro e; have h1 := hH9.lt; have h2 := hDlt.out; omega
        go_loopw [12] (fun iv wx => ∃ i : Nat, i ≤ 32 ∧ iv = .int .i64 i ∧ Blk .u8 wx k11 24 DL ∧ Blk .u32 wx (w.heap.size + 1) 29 (rowI 8 H) ∧ Hid (Blk .u32 wx k7 30 (rowI 16 fk)) ∧ Hid (Blk .u32 wx w.heap.size 42 L) ∧ Hid (Below w.heap.size w wx) ∧ Hid (wx.heap[D]? = some (.deferred (some [])))) (fun iv _ => 32 - (intOf iv).toNat)
        case atStart => exact ⟨0, by omega, rfl, hD9, hH9, Lib.hid hK9, Lib.hid hL9, Lib.hid hb9, Lib.hid hd9⟩
        case round =>
          clear hD9 hH9 hK9 hL9 hb9 hd9
          obtain ⟨i, hi, rfl, hD9, hH9, hK9, hL9, hb9, hd9⟩ := hrel
          by_cases hlt : i < 32
          · have hlt2 : (i : Int) < 32 := by omega
            have c1 := hH9.cell (i / 4) (by rw [rowI_len]; omega)
            rw [rowI_get] at c1
            have c2 := hD9.cell i (by rw [hDlen.out]; exact hlt)
            rw [hDget.out] at c2
            go_wp2
            go_quiet (fail)
            have hcmp : iv32 (H (i / 4)) / 2 ^ (24 - 8 * (i % 4)) % 256 = iv8 (digF H i) := (iv8_dig _ _).symm
            go_wp2
            exact ⟨⟨i + 1, by omega, rfl, hD9, hH9, hK9, hL9, Lib.hid ⟨hb9.out.os, hb9.out.tape, hb9.out.output, hb9.out.size, hb9.out.block⟩, hd9⟩, by simp [intOf]; omega⟩
          · obtain rfl : i = 32 := by omega
            clear hlt hi
            have hMX := fun W => mix_any l0 fk W
            have hMY := fun W => mix_any l1 fk W
            unfold arrV at hMX hMY
            have hA0 : (L.drop 0).take 8 = rowI 8 l0 := by rw [hL.out, List.drop_zero, List.take_left' (rowI_len 8 l0)]
            have hA1 : (L.drop 8).take 8 = rowI 8 l1 := by rw [hL.out, List.drop_left' (rowI_len 8 l0), List.take_of_length_le (by rw [rowI_len]; decide)]
            obtain ⟨A0, hL0e⟩ : ∃ A0, A0 = rowI 8 l0 := ⟨_, rfl⟩
            obtain ⟨A1, hL1e⟩ : ∃ A1, A1 = rowI 8 l1 := ⟨_, rfl⟩
            rw [← hL0e] at hA0
            rw [← hL1e] at hA1
            have hKl : (rowI 16 fk).length = 16 := rowI_len _ _
            obtain ⟨KB, hKBe⟩ : ∃ KB, KB = rowI 16 fk := ⟨_, rfl⟩
            obtain ⟨MX, hMXe⟩ : ∃ MX, MX = rowI 8 (mixF l0 fk numB) := ⟨_, rfl⟩
            obtain ⟨MY, hMYe⟩ : ∃ MY, MY = rowI 8 (mixF l1 fk numB) := ⟨_, rfl⟩
            have hMl : MX.length = 8 ∧ MY.length = 8 := by rw [hMXe, hMYe, rowI_len, rowI_len]; exact ⟨rfl, rfl⟩
            rw [← hKBe] at hKl hK9
            rw [← hL0e, ← hKBe, ← hMXe] at hMX
            rw [← hL1e, ← hKBe, ← hMYe] at hMY
            replace hMX := Lib.hid hMX
            replace hMY := Lib.hid hMY
            replace hL0e := Lib.hid hL0e
            replace hA0 := Lib.hid hA0
            replace hA1 := Lib.hid hA1
            replace hL1e := Lib.hid hL1e
            replace hKBe := Lib.hid hKBe
            replace hMXe := Lib.hid hMXe
            replace hMYe := Lib.hid hMYe
            replace hKl := Lib.hid hKl
            replace hMl := Lib.hid hMl
            have hL0 := hL9
            have hKB := hK9
            go_wp2
            obtain ⟨W0, hW0⟩ : ∃ W0, W0 = wr := ⟨_, rfl⟩
            rw [← hW0] at hL0 hKB hD9 hH9 hb9 hd9 ⊢
            clear hW0
            obtain ⟨I, hI⟩ : ∃ I : (Nat → Bool) → Act → World → Prop, ∀ d ac wz, I d ac wz ↔ (∃ v13 v14 v63 v64 v65 v66 v67 v68 v69 v70 : Value, ac = { tmps := #[.slice a bs.length c, .agg ((L).map (Value.int .u32)).toArray, undef, .pointer (some ⟨w.heap.size, 0, none⟩), u4, .pointer (some ⟨w.heap.size + 1, 0, none⟩), .int .i64 8, .pointer (some ⟨k7, 0, none⟩), .func (.func 32) #[] #[.pointer (some ⟨bx, 0, none⟩)], undef, undef, .pointer (some ⟨k11, 0, none⟩), .int .i64 32, v13, v14, undef, .slice a bs.length c, .int .i64 bs.length, .bool false, undef, .int .i64 8, .bool false, u22, u23, u24, u25, u26, u27, u28, u29, .slice a bs.length c, .func (.func 32) #[] #[.pointer (some ⟨bx, 0, none⟩)], .func (.func 32) #[] #[.pointer (some ⟨bx, 0, none⟩)], .bool false, .func (.func 32) #[] #[.pointer (some ⟨bx, 0, none⟩)], undef, undef, undef, undef, undef, undef, .slice a bs.length c, .slice (some ⟨W6.heap.size, 0, none⟩) 1 1, .agg ((DL).map (Value.int .u8)).toArray, .int .i64 32, .bool false, u46, u47, u48, u49, u50, u51, u52, u53, u54, u55, u56, u57, u58, u59, u60, u61, u62, v63, v64, v65, v66, v67, v68, v69, v70, undef, undef, undef, undef, undef, undef, undef, undef, undef, undef, undef, undef, undef, undef, undef, undef, undef, undef, undef, undef, undef, undef, undef, undef, undef, undef, undef, undef, undef, undef, undef, undef, undef, undef, undef, undef], defers := [{ target := .collected D, args := #[] }] }
              ∧ Below W0.heap.size W0 wz ∧ (d 0 = true → v63 = .pointer (some ⟨w.heap.size, 0, none⟩)) ∧ (d 1 = true → v64 = .agg ((A0).map (Value.int .u32)).toArray) ∧ (d 2 = true → v65 = .agg ((KB).map (Value.int .u32)).toArray) ∧ (d 3 = true → v66 = .agg ((MX).map (Value.int .u32)).toArray) ∧ (d 4 = true → v67 = .pointer (some ⟨w.heap.size, 8, none⟩)) ∧ (d 5 = true → v68 = .agg ((A1).map (Value.int .u32)).toArray) ∧ (d 6 = true → v69 = .agg ((KB).map (Value.int .u32)).toArray) ∧ (d 7 = true → v70 = .agg ((MY).map (Value.int .u32)).toArray)
              ∧ (d 10 = true → d 8 = true) ∧ (d 11 = true → d 9 = true)
              ∧ (d 8 = true → ∃ p, v13 = .pointer (some ⟨p, 0, none⟩) ∧ W0.heap.size ≤ p ∧ Blk .u32 wz p 29 (if d 10 = true then MX else (List.replicate 8 0)) ∧ (d 9 = true → v14 ≠ .pointer (some ⟨p, 0, none⟩)))
              ∧ (d 9 = true → ∃ p, v14 = .pointer (some ⟨p, 0, none⟩) ∧ W0.heap.size ≤ p ∧ Blk .u32 wz p 29 (if d 11 = true then MY else (List.replicate 8 0)) ∧ (d 8 = true → v13 ≠ .pointer (some ⟨p, 0, none⟩)))) := ⟨_, fun _ _ _ => Iff.rfl⟩
            replace hI := Lib.hid hI
            refine wp_region_inv (by kernel_rfl) (by kernel_rfl) I ?_ ?_ ?_
            · exact (hI.out _ _ _).2 ⟨undef, undef, undef, undef, undef, undef, undef, undef, undef, undef, rfl, xdrew (xrefl W0), by simp, by simp, by simp, by simp, by simp, by simp, by simp, by simp, by simp, by simp, by simp, by simp⟩
            · refine ⟨?_, ?_, ?_, ?_, ?_, ?_, ?_, ?_, ?_, ?_, ?_, ?_, trivial⟩
              · rintro d ac wz hn hwt hi; obtain ⟨v13, v14, v63, v64, v65, v66, v67, v68, v69, v70, rfl, hb, f63, f64, f65, f66, f67, f68, f69, f70, g10, g11, f13, f14⟩ := (hI.out d ac wz).1 hi; clear hi; simp [waitsFor, Region.binds] at hwt hn; replace f63 := Lib.hid f63; replace f64 := Lib.hid f64; replace f65 := Lib.hid f65; replace f66 := Lib.hid f66; replace f67 := Lib.hid f67; replace f68 := Lib.hid f68; replace f69 := Lib.hid f69; replace f70 := Lib.hid f70; replace f13 := Lib.hid f13; replace f14 := Lib.hid f14; replace g10 := Lib.hid g10; replace g11 := Lib.hid g11
                go_simp
                exact (hI.out _ _ _).2 ⟨v13, v14, .pointer (some ⟨w.heap.size, 0, none⟩), v64, v65, v66, v67, v68, v69, v70, rfl, hb, fun _ => rfl, by simpa [also] using f64.out, by simpa [also] using f65.out, by simpa [also] using f66.out, by simpa [also] using f67.out, by simpa [also] using f68.out, by simpa [also] using f69.out, by simpa [also] using f70.out, by simpa [also] using g10.out, by simpa [also] using g11.out, by simpa [also] using f13.out, by simpa [also] using f14.out⟩
              · rintro d ac wz hn hwt hi; obtain ⟨v13, v14, v63, v64, v65, v66, v67, v68, v69, v70, rfl, hb, f63, f64, f65, f66, f67, f68, f69, f70, g10, g11, f13, f14⟩ := (hI.out d ac wz).1 hi; clear hi; simp [waitsFor, Region.binds] at hwt hn; replace f63 := Lib.hid f63; replace f64 := Lib.hid f64; replace f65 := Lib.hid f65; replace f66 := Lib.hid f66; replace f67 := Lib.hid f67; replace f68 := Lib.hid f68; replace f69 := Lib.hid f69; replace f70 := Lib.hid f70; replace f13 := Lib.hid f13; replace f14 := Lib.hid f14; replace g10 := Lib.hid g10; replace g11 := Lib.hid g11
                have e1 := f63.out (by simp [hwt])
                subst e1
                refine wp_load_mid 29 _ rfl w.heap.size 0 rfl .u32 42 L 8 _ _ (hL0.out.below hb) Try.underlying29 (by kernel_rfl) (by rw [hLl.out]; decide) ?_
                rw [hA0.out]
                exact (hI.out _ _ _).2 ⟨v13, v14, .pointer (some ⟨w.heap.size, 0, none⟩), .agg ((A0).map (Value.int .u32)).toArray, v65, v66, v67, v68, v69, v70, rfl, hb, fun _ => rfl, fun _ => rfl, by simpa [also] using f65.out, by simpa [also] using f66.out, by simpa [also] using f67.out, by simpa [also] using f68.out, by simpa [also] using f69.out, by simpa [also] using f70.out, by simpa [also] using g10.out, by simpa [also] using g11.out, by simpa [also] using f13.out, by simpa [also] using f14.out⟩
              · rintro d ac wz hn hwt hi; obtain ⟨v13, v14, v63, v64, v65, v66, v67, v68, v69, v70, rfl, hb, f63, f64, f65, f66, f67, f68, f69, f70, g10, g11, f13, f14⟩ := (hI.out d ac wz).1 hi; clear hi; simp [waitsFor, Region.binds] at hwt hn; replace f63 := Lib.hid f63; replace f64 := Lib.hid f64; replace f65 := Lib.hid f65; replace f66 := Lib.hid f66; replace f67 := Lib.hid f67; replace f68 := Lib.hid f68; replace f69 := Lib.hid f69; replace f70 := Lib.hid f70; replace f13 := Lib.hid f13; replace f14 := Lib.hid f14; replace g10 := Lib.hid g10; replace g11 := Lib.hid g11
                refine wp_load_blk 30 _ rfl k7 rfl .u32 30 KB _ _ (hKB.out.below hb) Try.underlying30 (by rw [hKl.out]; kernel_rfl) ?_
                exact (hI.out _ _ _).2 ⟨v13, v14, v63, v64, .agg ((KB).map (Value.int .u32)).toArray, v66, v67, v68, v69, v70, rfl, hb, by simpa [also] using f63.out, by simpa [also] using f64.out, fun _ => rfl, by simpa [also] using f66.out, by simpa [also] using f67.out, by simpa [also] using f68.out, by simpa [also] using f69.out, by simpa [also] using f70.out, by simpa [also] using g10.out, by simpa [also] using g11.out, by simpa [also] using f13.out, by simpa [also] using f14.out⟩
              · rintro d ac wz hn hwt hi; obtain ⟨v13, v14, v63, v64, v65, v66, v67, v68, v69, v70, rfl, hb, f63, f64, f65, f66, f67, f68, f69, f70, g10, g11, f13, f14⟩ := (hI.out d ac wz).1 hi; clear hi; simp [waitsFor, Region.binds] at hwt hn; replace f63 := Lib.hid f63; replace f64 := Lib.hid f64; replace f65 := Lib.hid f65; replace f66 := Lib.hid f66; replace f67 := Lib.hid f67; replace f68 := Lib.hid f68; replace f69 := Lib.hid f69; replace f70 := Lib.hid f70; replace f13 := Lib.hid f13; replace f14 := Lib.hid f14; replace g10 := Lib.hid g10; replace g11 := Lib.hid g11
                have e1 := f64.out (by simp [hwt])
                have e2 := f65.out (by simp [hwt])
                subst e1 e2
                go_simp
                go_at_call 11
                refine (hMX.out _).mono ?_
                rintro e w' ⟨rfl, hbb⟩
                refine (hI.out _ _ _).2 ⟨v13, v14, v63, .agg ((A0).map (Value.int .u32)).toArray, .agg ((KB).map (Value.int .u32)).toArray, .agg ((MX).map (Value.int .u32)).toArray, v67, v68, v69, v70, rfl, xtrans hb hbb, by simpa [also] using f63.out, fun _ => rfl, fun _ => rfl, fun _ => rfl, by simpa [also] using f67.out, by simpa [also] using f68.out, by simpa [also] using f69.out, by simpa [also] using f70.out, by simpa [also] using g10.out, by simpa [also] using g11.out, ?_, ?_⟩
                · intro h
                  obtain ⟨p, e1, e2, e3, e4⟩ := f13.out (by simpa [also] using h)
                  exact ⟨p, e1, e2, by simpa [also] using e3.below hbb, by simpa [also] using e4⟩
                · intro h
                  obtain ⟨p, e1, e2, e3, e4⟩ := f14.out (by simpa [also] using h)
                  exact ⟨p, e1, e2, by simpa [also] using e3.below hbb, by simpa [also] using e4⟩
              · rintro d ac wz hn hwt hi; obtain ⟨v13, v14, v63, v64, v65, v66, v67, v68, v69, v70, rfl, hb, f63, f64, f65, f66, f67, f68, f69, f70, g10, g11, f13, f14⟩ := (hI.out d ac wz).1 hi; clear hi; simp [waitsFor, Region.binds] at hwt hn; replace f63 := Lib.hid f63; replace f64 := Lib.hid f64; replace f65 := Lib.hid f65; replace f66 := Lib.hid f66; replace f67 := Lib.hid f67; replace f68 := Lib.hid f68; replace f69 := Lib.hid f69; replace f70 := Lib.hid f70; replace f13 := Lib.hid f13; replace f14 := Lib.hid f14; replace g10 := Lib.hid g10; replace g11 := Lib.hid g11
                go_simp
                exact (hI.out _ _ _).2 ⟨v13, v14, v63, v64, v65, v66, .pointer (some ⟨w.heap.size, 8, none⟩), v68, v69, v70, rfl, hb, by simpa [also] using f63.out, by simpa [also] using f64.out, by simpa [also] using f65.out, by simpa [also] using f66.out, fun _ => rfl, by simpa [also] using f68.out, by simpa [also] using f69.out, by simpa [also] using f70.out, by simpa [also] using g10.out, by simpa [also] using g11.out, by simpa [also] using f13.out, by simpa [also] using f14.out⟩
              · rintro d ac wz hn hwt hi; obtain ⟨v13, v14, v63, v64, v65, v66, v67, v68, v69, v70, rfl, hb, f63, f64, f65, f66, f67, f68, f69, f70, g10, g11, f13, f14⟩ := (hI.out d ac wz).1 hi; clear hi; simp [waitsFor, Region.binds] at hwt hn; replace f63 := Lib.hid f63; replace f64 := Lib.hid f64; replace f65 := Lib.hid f65; replace f66 := Lib.hid f66; replace f67 := Lib.hid f67; replace f68 := Lib.hid f68; replace f69 := Lib.hid f69; replace f70 := Lib.hid f70; replace f13 := Lib.hid f13; replace f14 := Lib.hid f14; replace g10 := Lib.hid g10; replace g11 := Lib.hid g11
                have e1 := f67.out (by simp [hwt])
                subst e1
                refine wp_load_mid 29 _ rfl w.heap.size 8 rfl .u32 42 L 8 _ _ (hL0.out.below hb) Try.underlying29 (by kernel_rfl) (by rw [hLl.out]; decide) ?_
                rw [hA1.out]
                exact (hI.out _ _ _).2 ⟨v13, v14, v63, v64, v65, v66, .pointer (some ⟨w.heap.size, 8, none⟩), .agg ((A1).map (Value.int .u32)).toArray, v69, v70, rfl, hb, by simpa [also] using f63.out, by simpa [also] using f64.out, by simpa [also] using f65.out, by simpa [also] using f66.out, fun _ => rfl, fun _ => rfl, by simpa [also] using f69.out, by simpa [also] using f70.out, by simpa [also] using g10.out, by simpa [also] using g11.out, by simpa [also] using f13.out, by simpa [also] using f14.out⟩
              · rintro d ac wz hn hwt hi; obtain ⟨v13, v14, v63, v64, v65, v66, v67, v68, v69, v70, rfl, hb, f63, f64, f65, f66, f67, f68, f69, f70, g10, g11, f13, f14⟩ := (hI.out d ac wz).1 hi; clear hi; simp [waitsFor, Region.binds] at hwt hn; replace f63 := Lib.hid f63; replace f64 := Lib.hid f64; replace f65 := Lib.hid f65; replace f66 := Lib.hid f66; replace f67 := Lib.hid f67; replace f68 := Lib.hid f68; replace f69 := Lib.hid f69; replace f70 := Lib.hid f70; replace f13 := Lib.hid f13; replace f14 := Lib.hid f14; replace g10 := Lib.hid g10; replace g11 := Lib.hid g11
                refine wp_load_blk 30 _ rfl k7 rfl .u32 30 KB _ _ (hKB.out.below hb) Try.underlying30 (by rw [hKl.out]; kernel_rfl) ?_
                exact (hI.out _ _ _).2 ⟨v13, v14, v63, v64, v65, v66, v67, v68, .agg ((KB).map (Value.int .u32)).toArray, v70, rfl, hb, by simpa [also] using f63.out, by simpa [also] using f64.out, by simpa [also] using f65.out, by simpa [also] using f66.out, by simpa [also] using f67.out, by simpa [also] using f68.out, fun _ => rfl, by simpa [also] using f70.out, by simpa [also] using g10.out, by simpa [also] using g11.out, by simpa [also] using f13.out, by simpa [also] using f14.out⟩
              · rintro d ac wz hn hwt hi; obtain ⟨v13, v14, v63, v64, v65, v66, v67, v68, v69, v70, rfl, hb, f63, f64, f65, f66, f67, f68, f69, f70, g10, g11, f13, f14⟩ := (hI.out d ac wz).1 hi; clear hi; simp [waitsFor, Region.binds] at hwt hn; replace f63 := Lib.hid f63; replace f64 := Lib.hid f64; replace f65 := Lib.hid f65; replace f66 := Lib.hid f66; replace f67 := Lib.hid f67; replace f68 := Lib.hid f68; replace f69 := Lib.hid f69; replace f70 := Lib.hid f70; replace f13 := Lib.hid f13; replace f14 := Lib.hid f14; replace g10 := Lib.hid g10; replace g11 := Lib.hid g11
                have e1 := f68.out (by simp [hwt])
                have e2 := f69.out (by simp [hwt])
                subst e1 e2
                go_simp
                go_at_call 11
                refine (hMY.out _).mono ?_
                rintro e w' ⟨rfl, hbb⟩
                refine (hI.out _ _ _).2 ⟨v13, v14, v63, v64, v65, v66, v67, .agg ((A1).map (Value.int .u32)).toArray, .agg ((KB).map (Value.int .u32)).toArray, .agg ((MY).map (Value.int .u32)).toArray, rfl, xtrans hb hbb, by simpa [also] using f63.out, by simpa [also] using f64.out, by simpa [also] using f65.out, by simpa [also] using f66.out, by simpa [also] using f67.out, fun _ => rfl, fun _ => rfl, fun _ => rfl, by simpa [also] using g10.out, by simpa [also] using g11.out, ?_, ?_⟩
                · intro h
                  obtain ⟨p, e1, e2, e3, e4⟩ := f13.out (by simpa [also] using h)
                  exact ⟨p, e1, e2, by simpa [also] using e3.below hbb, by simpa [also] using e4⟩
                · intro h
                  obtain ⟨p, e1, e2, e3, e4⟩ := f14.out (by simpa [also] using h)
                  exact ⟨p, e1, e2, by simpa [also] using e3.below hbb, by simpa [also] using e4⟩
              · rintro d ac wz hn hwt hi; obtain ⟨v13, v14, v63, v64, v65, v66, v67, v68, v69, v70, rfl, hb, f63, f64, f65, f66, f67, f68, f69, f70, g10, g11, f13, f14⟩ := (hI.out d ac wz).1 hi; clear hi; simp [waitsFor, Region.binds] at hwt hn; replace f63 := Lib.hid f63; replace f64 := Lib.hid f64; replace f65 := Lib.hid f65; replace f66 := Lib.hid f66; replace f67 := Lib.hid f67; replace f68 := Lib.hid f68; replace f69 := Lib.hid f69; replace f70 := Lib.hid f70; replace f13 := Lib.hid f13; replace f14 := Lib.hid f14; replace g10 := Lib.hid g10; replace g11 := Lib.hid g11
                have hno : ¬ d 10 = true := by intro h; simp [g10.out h] at hn
                go_simp
                refine (hI.out _ _ _).2 ⟨.pointer (some ⟨wz.heap.size, 0, none⟩), v14, v63, v64, v65, v66, v67, v68, v69, v70, rfl, xalloc hb _, by simpa [also] using f63.out, by simpa [also] using f64.out, by simpa [also] using f65.out, by simpa [also] using f66.out, by simpa [also] using f67.out, by simpa [also] using f68.out, by simpa [also] using f69.out, by simpa [also] using f70.out, fun _ => rfl, by simpa [also] using g11.out, ?_, ?_⟩
                · intro h
                  refine ⟨wz.heap.size, rfl, hb.size, ?_, ?_⟩
                  · rw [if_neg (by simpa [also] using hno)]
                    exact Blk.new' _ _ _ (List.replicate 8 0) rfl
                  · intro h
                    obtain ⟨p, e1, e2, e3, e4⟩ := f14.out (by simpa [also] using h)
                    rw [e1]
                    intro he
                    have := e3.lt
                    simp at he <;> omega
                · intro h
                  obtain ⟨p, e1, e2, e3, e4⟩ := f14.out (by simpa [also] using h)
                  refine ⟨p, e1, e2, by simpa [also] using e3.alloc _, ?_⟩
                  intro _ he
                  have := e3.lt
                  simp at he <;> omega
              · rintro d ac wz hn hwt hi; obtain ⟨v13, v14, v63, v64, v65, v66, v67, v68, v69, v70, rfl, hb, f63, f64, f65, f66, f67, f68, f69, f70, g10, g11, f13, f14⟩ := (hI.out d ac wz).1 hi; clear hi; simp [waitsFor, Region.binds] at hwt hn; replace f63 := Lib.hid f63; replace f64 := Lib.hid f64; replace f65 := Lib.hid f65; replace f66 := Lib.hid f66; replace f67 := Lib.hid f67; replace f68 := Lib.hid f68; replace f69 := Lib.hid f69; replace f70 := Lib.hid f70; replace f13 := Lib.hid f13; replace f14 := Lib.hid f14; replace g10 := Lib.hid g10; replace g11 := Lib.hid g11
                have hno : ¬ d 11 = true := by intro h; simp [g11.out h] at hn
                go_simp
                refine (hI.out _ _ _).2 ⟨v13, .pointer (some ⟨wz.heap.size, 0, none⟩), v63, v64, v65, v66, v67, v68, v69, v70, rfl, xalloc hb _, by simpa [also] using f63.out, by simpa [also] using f64.out, by simpa [also] using f65.out, by simpa [also] using f66.out, by simpa [also] using f67.out, by simpa [also] using f68.out, by simpa [also] using f69.out, by simpa [also] using f70.out, by simpa [also] using g10.out, fun _ => rfl, ?_, ?_⟩
                · intro h
                  obtain ⟨p, e1, e2, e3, e4⟩ := f13.out (by simpa [also] using h)
                  refine ⟨p, e1, e2, by simpa [also] using e3.alloc _, ?_⟩
                  intro _ he
                  have := e3.lt
                  simp at he <;> omega
                · intro h
                  refine ⟨wz.heap.size, rfl, hb.size, ?_, ?_⟩
                  · rw [if_neg (by simpa [also] using hno)]
                    exact Blk.new' _ _ _ (List.replicate 8 0) rfl
                  · intro h
                    obtain ⟨p, e1, e2, e3, e4⟩ := f13.out (by simpa [also] using h)
                    rw [e1]
                    intro he
                    have := e3.lt
                    simp at he <;> omega
              · rintro d ac wz hn hwt hi; obtain ⟨v13, v14, v63, v64, v65, v66, v67, v68, v69, v70, rfl, hb, f63, f64, f65, f66, f67, f68, f69, f70, g10, g11, f13, f14⟩ := (hI.out d ac wz).1 hi; clear hi; simp [waitsFor, Region.binds] at hwt hn; replace f63 := Lib.hid f63; replace f64 := Lib.hid f64; replace f65 := Lib.hid f65; replace f66 := Lib.hid f66; replace f67 := Lib.hid f67; replace f68 := Lib.hid f68; replace f69 := Lib.hid f69; replace f70 := Lib.hid f70; replace f13 := Lib.hid f13; replace f14 := Lib.hid f14; replace g10 := Lib.hid g10; replace g11 := Lib.hid g11
                have h8 : d 8 = true := by simp [hwt]
                have h9 : d 9 = true := by simp [hwt]
                have e0 := f66.out (by simp [hwt])
                subst e0
                obtain ⟨p, e1, e2, e3, e4⟩ := f13.out h8
                obtain ⟨q, k1, k2, k3, k4⟩ := f14.out h9
                subst e1 k1
                have hpq : q ≠ p := by rintro rfl; exact e4 h9 rfl
                rw [if_neg (by simp [hn])] at e3
                refine wp_store_blk 29 _ _ rfl p rfl .u32 29 (List.replicate 8 0) MX e3 rfl (by rw [hMl.out.1, List.length_replicate]) (by rw [hMl.out.1]; kernel_rfl) ?_
                intro w2 hw2 ho2
                refine (hI.out _ _ _).2 ⟨.pointer (some ⟨p, 0, none⟩), .pointer (some ⟨q, 0, none⟩), v63, v64, v65, .agg ((MX).map (Value.int .u32)).toArray, v67, v68, v69, v70, rfl, ho2.below hb hb.size (by rintro i rfl; omega), by simpa [also] using f63.out, by simpa [also] using f64.out, by simpa [also] using f65.out, fun _ => rfl, by simpa [also] using f67.out, by simpa [also] using f68.out, by simpa [also] using f69.out, by simpa [also] using f70.out, fun _ => by simp [also, h8], fun _ => by simp [also, h9], ?_, ?_⟩
                · exact fun _ => ⟨p, rfl, by assumption, by simpa [also] using hw2, fun _ h => by simp at h <;> omega⟩
                · exact fun _ => ⟨q, rfl, by assumption, by simpa [also] using k3.only ho2 hpq, fun _ h => by simp at h <;> omega⟩
              · rintro d ac wz hn hwt hi; obtain ⟨v13, v14, v63, v64, v65, v66, v67, v68, v69, v70, rfl, hb, f63, f64, f65, f66, f67, f68, f69, f70, g10, g11, f13, f14⟩ := (hI.out d ac wz).1 hi; clear hi; simp [waitsFor, Region.binds] at hwt hn; replace f63 := Lib.hid f63; replace f64 := Lib.hid f64; replace f65 := Lib.hid f65; replace f66 := Lib.hid f66; replace f67 := Lib.hid f67; replace f68 := Lib.hid f68; replace f69 := Lib.hid f69; replace f70 := Lib.hid f70; replace f13 := Lib.hid f13; replace f14 := Lib.hid f14; replace g10 := Lib.hid g10; replace g11 := Lib.hid g11
                have h8 : d 8 = true := by simp [hwt]
                have h9 : d 9 = true := by simp [hwt]
                have e0 := f70.out (by simp [hwt])
                subst e0
                obtain ⟨p, e1, e2, e3, e4⟩ := f14.out h9
                obtain ⟨q, k1, k2, k3, k4⟩ := f13.out h8
                subst e1 k1
                have hpq : q ≠ p := by rintro rfl; exact e4 h8 rfl
                rw [if_neg (by simp [hn])] at e3
                refine wp_store_blk 29 _ _ rfl p rfl .u32 29 (List.replicate 8 0) MY e3 rfl (by rw [hMl.out.2, List.length_replicate]) (by rw [hMl.out.2]; kernel_rfl) ?_
                intro w2 hw2 ho2
                refine (hI.out _ _ _).2 ⟨.pointer (some ⟨q, 0, none⟩), .pointer (some ⟨p, 0, none⟩), v63, v64, v65, v66, v67, v68, v69, .agg ((MY).map (Value.int .u32)).toArray, rfl, ho2.below hb hb.size (by rintro i rfl; omega), by simpa [also] using f63.out, by simpa [also] using f64.out, by simpa [also] using f65.out, by simpa [also] using f66.out, by simpa [also] using f67.out, by simpa [also] using f68.out, by simpa [also] using f69.out, fun _ => rfl, fun _ => by simp [also, h8], fun _ => by simp [also, h9], ?_, ?_⟩
                · exact fun _ => ⟨q, rfl, by assumption, by simpa [also] using k3.only ho2 hpq, fun _ h => by simp at h <;> omega⟩
                · exact fun _ => ⟨p, rfl, by assumption, by simpa [also] using hw2, fun _ h => by simp at h <;> omega⟩
            intro d ac wz hall hi
            obtain ⟨v13, v14, v63, v64, v65, v66, v67, v68, v69, v70, rfl, hb, f63, f64, f65, f66, f67, f68, f69, f70, g10, g11, f13, f14⟩ := (hI.out d ac wz).1 hi
            clear hi
            simp [List.range_succ] at hall
            have e63 := f63 (by simp [hall])
            have e64 := f64 (by simp [hall])
            have e65 := f65 (by simp [hall])
            have e66 := f66 (by simp [hall])
            have e67 := f67 (by simp [hall])
            have e68 := f68 (by simp [hall])
            have e69 := f69 (by simp [hall])
            have e70 := f70 (by simp [hall])
            obtain ⟨p13, e1, hp13, hX, hpq⟩ := f13 (by simp [hall])
            obtain ⟨p14, e2, hp14, hY, -⟩ := f14 (by simp [hall])
            replace hpq := hpq (by simp [hall])
            subst e63 e64 e65 e66 e67 e68 e69 e70 e1 e2
            rw [if_pos (by simp [hall])] at hX hY
            replace hpq : p14 ≠ p13 := by rintro rfl; exact hpq rfl
            clear f13 f14 f63 f64 f65 f66 f67 f68 f69 f70 g10 g11 hall hI I
            dsimp only
            have hwz := hL0.out.below hb
            have hbz := Lib.hid (xtrans hb9.out hb)
            have hk11l := hD9.lt
            have hHl := hH9.lt
            have hdz := Lib.hid ((hb.block D (by have := hDlt.out; have := hk11lt.out; omega)).trans hd9.out)
            have hp13w : w.heap.size + 1 < p13 := by omega
            have hp14w : w.heap.size + 1 < p14 := by omega
            have hDp13 : D ≠ p13 := by have := hDlt.out; have := hk11lt.out; omega
            have hDp14 : D ≠ p14 := by have := hDlt.out; have := hk11lt.out; omega
            rw [hMXe.out, ← part_zero _ (lessF l0 fk)] at hX
            rw [hMYe.out, ← part_zero _ (lessF l1 fk)] at hY
            replace hX := Lib.hid hX
            replace hY := Lib.hid hY
            replace hwz := Lib.hid hwz
            clear hD9 hH9 hKB hb9 hd9 hL0 hb hp13 hp14 hMXe hMYe hMX hMY hMl hKl hKBe
            go_wp2
            go_loopw [15] (fun iv wx => ∃ i : Nat, i ≤ 8 ∧ iv = .int .i64 i ∧ Blk .u32 wx p13 29 (rowI 8 (partF (mixF l0 fk numB) (lessF l0 fk) i)) ∧ Blk .u32 wx p14 29 (rowI 8 (partF (mixF l1 fk numB) (lessF l1 fk) i)) ∧ Blk .u32 wx w.heap.size 42 L ∧ Hid (Below w.heap.size w wx) ∧ Hid (wx.heap[D]? = some (.deferred (some [])))) (fun iv _ => 8 - (intOf iv).toNat)
            case atStart => exact ⟨0, by omega, rfl, hX.out, hY.out, hwz.out, hbz, hdz⟩
            case round =>
              clear hX hY hwz hbz hdz
              obtain ⟨i, hi, rfl, hX, hY, hwz, hbz, hdz⟩ := hrel
              by_cases hlt : i < 8
              · have hlt2 : (i : Int) < 8 := by omega
                have c1 := hX.cell i (by rw [rowI_len]; exact hlt)
                rw [part_get _ _ _ hlt] at c1
                have c2 := hwz.cell i (by rw [hLl.out]; omega)
                rw [hLc0.out i hlt] at c2
                obtain ⟨xv, hxv⟩ : ∃ xv, xv = (mixF l0 fk numB) i := ⟨_, rfl⟩
                obtain ⟨yv, hyv⟩ : ∃ yv, yv = l0 i := ⟨_, rfl⟩
                rw [← hxv] at c1
                rw [← hyv] at c2
                replace c1 := Lib.hid c1
                replace c2 := Lib.hid c2
                replace hxv := Lib.hid hxv
                replace hyv := Lib.hid hyv
                replace hX := Lib.hid hX
                replace hY := Lib.hid hY
                replace hwz := Lib.hid hwz
                go_wp2
                refine wp_region_growL 10 [fixd (.int .i64 i), fixd (.int .i64 i), fixd (.pointer (some ⟨p13, i, none⟩)), fixd (.int .u32 (iv32 (xv))), fixd (.int .i64 i), fixd (.pointer (some ⟨w.heap.size, 0, none⟩)), fixd (.pointer (some ⟨w.heap.size, i, none⟩)), fixd (.int .u32 (iv32 (yv))), fixd (.int .u32 (iv32 (sub32 xv yv))), fixd (.pointer (some ⟨p13, i, none⟩))] (by kernel_rfl) (by kernel_rfl) ?_
                simp only [List.take_succ_cons, List.take_zero, List.drop_succ_cons, List.drop_zero]
                try simp only [Act.put, List.setIfInBounds_toArray, List.set_cons_succ, List.set_cons_zero, List.nil_append, List.cons_append]
                refine wpGrowV_fix _ rfl rfl (fun W hb _ => by go_simp; first | exact xrefl W | exact ⟨rfl, xrefl W⟩) ?_
                try simp only [Act.put, List.setIfInBounds_toArray, List.set_cons_succ, List.set_cons_zero, List.nil_append, List.cons_append]
                refine wpGrowV_fix _ rfl rfl (fun W hb _ => by go_simp; first | exact xrefl W | exact ⟨rfl, xrefl W⟩) ?_
                try simp only [Act.put, List.setIfInBounds_toArray, List.set_cons_succ, List.set_cons_zero, List.nil_append, List.cons_append]
                refine wpGrowV_fix _ rfl rfl (fun W hb _ => by go_simp; first | exact xrefl W | exact ⟨rfl, xrefl W⟩) ?_
                try simp only [Act.put, List.setIfInBounds_toArray, List.set_cons_succ, List.set_cons_zero, List.nil_append, List.cons_append]
                refine wpGrowV_fix _ rfl rfl (fun W hb _ => by have c := cbel hb c1.out; go_simp; first | exact xrefl W | exact ⟨rfl, xrefl W⟩) ?_
                try simp only [Act.put, List.setIfInBounds_toArray, List.set_cons_succ, List.set_cons_zero, List.nil_append, List.cons_append]
                refine wpGrowV_fix _ rfl rfl (fun W hb _ => by go_simp; first | exact xrefl W | exact ⟨rfl, xrefl W⟩) ?_
                try simp only [Act.put, List.setIfInBounds_toArray, List.set_cons_succ, List.set_cons_zero, List.nil_append, List.cons_append]
                refine wpGrowV_fix _ rfl rfl (fun W hb _ => by go_simp; first | exact xrefl W | exact ⟨rfl, xrefl W⟩) ?_
                try simp only [Act.put, List.setIfInBounds_toArray, List.set_cons_succ, List.set_cons_zero, List.nil_append, List.cons_append]
                refine wpGrowV_fix _ rfl rfl (fun W hb _ => by go_simp; first | exact xrefl W | exact ⟨rfl, xrefl W⟩) ?_
                try simp only [Act.put, List.setIfInBounds_toArray, List.set_cons_succ, List.set_cons_zero, List.nil_append, List.cons_append]
                refine wpGrowV_fix _ rfl rfl (fun W hb _ => by have c := cbel hb c2.out; go_simp; first | exact xrefl W | exact ⟨rfl, xrefl W⟩) ?_
                try simp only [Act.put, List.setIfInBounds_toArray, List.set_cons_succ, List.set_cons_zero, List.nil_append, List.cons_append]
                refine wpGrowV_fix _ rfl rfl (fun W hb _ => by go_simp; first | exact xrefl W | exact ⟨rfl, xrefl W⟩) ?_
                try simp only [Act.put, List.setIfInBounds_toArray, List.set_cons_succ, List.set_cons_zero, List.nil_append, List.cons_append]
                refine wpGrowV_fix _ rfl rfl (fun W hb _ => by go_simp; first | exact xrefl W | exact ⟨rfl, xrefl W⟩) ?_
                try simp only [Act.put, List.setIfInBounds_toArray, List.set_cons_succ, List.set_cons_zero, List.nil_append, List.cons_append]
                refine wpGrowV_nil fun Wa hba _ => ?_
                have f1 := (hX.out.below hba).frozen i
                have d1 := cbel hba c1.out
                have e1 := (hX.out.below hba).set i (iv32 (sub32 xv yv))
                have e2 := (hY.out.below hba).oth (c := p13) (i := i) (.int .u32 (iv32 (sub32 xv yv))) hpq
                have e3 := (hwz.out.below hba).oth (c := p13) (i := i) (.int .u32 (iv32 (sub32 xv yv))) (by omega)
                have e4 := xsetb (xtrans hbz.out hba) (c := p13) (i := i) (by omega) (.int .u32 (iv32 (sub32 xv yv)))
                have hDw := (Array.getElem?_eq_some_iff.1 hdz.out).1
                have e5 := (Below.heap_setCell Wa ⟨p13, i, none⟩ (.int .u32 (iv32 (sub32 xv yv))) D hDp13).trans ((hba.block D hDw).trans hdz.out)
                obtain ⟨Wb, hWb⟩ : ∃ Wb, Wa.setCell ⟨p13, i, none⟩ (.int .u32 (iv32 (sub32 xv yv))) = Wb := ⟨_, rfl⟩
                rw [hWb] at e1 e2 e3 e4 e5
                have ee : sub32 xv yv = (lessF l0 fk) i := by rw [hxv.out, hyv.out]; rfl
                rw [ee, part_succ (mixF l0 fk numB) (lessF l0 fk) i hlt] at e1
                clear ee hX hY hwz hbz hdz c1 c2 hDw
                have c1 := e2.cell i (by rw [rowI_len]; exact hlt)
                rw [part_get _ _ _ hlt] at c1
                have c2 := e3.cell (8 + i) (by rw [hLl.out]; omega)
                rw [hLc1.out i hlt] at c2
                obtain ⟨zv, hzv⟩ : ∃ zv, zv = (mixF l1 fk numB) i := ⟨_, rfl⟩
                obtain ⟨tv, htv⟩ : ∃ tv, tv = l1 i := ⟨_, rfl⟩
                rw [← hzv] at c1
                rw [← htv] at c2
                replace c1 := Lib.hid c1
                replace c2 := Lib.hid c2
                replace hzv := Lib.hid hzv
                replace htv := Lib.hid htv
                replace e1 := Lib.hid e1
                replace e2 := Lib.hid e2
                replace e3 := Lib.hid e3
                replace e4 := Lib.hid e4
                replace e5 := Lib.hid e5
                replace hWb := Lib.hid hWb
                go_wp2
                refine wp_world (w' := Wb) hWb.out ?_
                clear hWb f1 d1
                refine wp_region_growL 10 [fixd (.int .i64 i), fixd (.int .i64 i), fixd (.pointer (some ⟨p14, i, none⟩)), fixd (.int .u32 (iv32 (zv))), fixd (.int .i64 i), fixd (.pointer (some ⟨w.heap.size, 8, none⟩)), fixd (.pointer (some ⟨w.heap.size, 8 + i, none⟩)), fixd (.int .u32 (iv32 (tv))), fixd (.int .u32 (iv32 (sub32 zv tv))), fixd (.pointer (some ⟨p14, i, none⟩))] (by kernel_rfl) (by kernel_rfl) ?_
                simp only [List.take_succ_cons, List.take_zero, List.drop_succ_cons, List.drop_zero]
                try simp only [Act.put, List.setIfInBounds_toArray, List.set_cons_succ, List.set_cons_zero, List.nil_append, List.cons_append]
                refine wpGrowV_fix _ rfl rfl (fun W hb _ => by go_simp; first | exact xrefl W | exact ⟨rfl, xrefl W⟩) ?_
                try simp only [Act.put, List.setIfInBounds_toArray, List.set_cons_succ, List.set_cons_zero, List.nil_append, List.cons_append]
                refine wpGrowV_fix _ rfl rfl (fun W hb _ => by go_simp; first | exact xrefl W | exact ⟨rfl, xrefl W⟩) ?_
                try simp only [Act.put, List.setIfInBounds_toArray, List.set_cons_succ, List.set_cons_zero, List.nil_append, List.cons_append]
                refine wpGrowV_fix _ rfl rfl (fun W hb _ => by go_simp; first | exact xrefl W | exact ⟨rfl, xrefl W⟩) ?_
                try simp only [Act.put, List.setIfInBounds_toArray, List.set_cons_succ, List.set_cons_zero, List.nil_append, List.cons_append]
                refine wpGrowV_fix _ rfl rfl (fun W hb _ => by have c := cbel hb c1.out; go_simp; first | exact xrefl W | exact ⟨rfl, xrefl W⟩) ?_
                try simp only [Act.put, List.setIfInBounds_toArray, List.set_cons_succ, List.set_cons_zero, List.nil_append, List.cons_append]
                refine wpGrowV_fix _ rfl rfl (fun W hb _ => by go_simp; first | exact xrefl W | exact ⟨rfl, xrefl W⟩) ?_
                try simp only [Act.put, List.setIfInBounds_toArray, List.set_cons_succ, List.set_cons_zero, List.nil_append, List.cons_append]
                refine wpGrowV_fix _ rfl rfl (fun W hb _ => by go_simp; first | exact xrefl W | exact ⟨rfl, xrefl W⟩) ?_
                try simp only [Act.put, List.setIfInBounds_toArray, List.set_cons_succ, List.set_cons_zero, List.nil_append, List.cons_append]
                refine wpGrowV_fix _ rfl rfl (fun W hb _ => by go_simp; first | exact xrefl W | exact ⟨rfl, xrefl W⟩) ?_
                try simp only [Act.put, List.setIfInBounds_toArray, List.set_cons_succ, List.set_cons_zero, List.nil_append, List.cons_append]
                refine wpGrowV_fix _ rfl rfl (fun W hb _ => by have c := cbel hb c2.out; go_simp; first | exact xrefl W | exact ⟨rfl, xrefl W⟩) ?_
                try simp only [Act.put, List.setIfInBounds_toArray, List.set_cons_succ, List.set_cons_zero, List.nil_append, List.cons_append]
                refine wpGrowV_fix _ rfl rfl (fun W hb _ => by go_simp; first | exact xrefl W | exact ⟨rfl, xrefl W⟩) ?_
                try simp only [Act.put, List.setIfInBounds_toArray, List.set_cons_succ, List.set_cons_zero, List.nil_append, List.cons_append]
                refine wpGrowV_fix _ rfl rfl (fun W hb _ => by go_simp; first | exact xrefl W | exact ⟨rfl, xrefl W⟩) ?_
                try simp only [Act.put, List.setIfInBounds_toArray, List.set_cons_succ, List.set_cons_zero, List.nil_append, List.cons_append]
                refine wpGrowV_nil fun Wc hbc _ => ?_
                have f1 := (e2.out.below hbc).frozen i
                have d1 := cbel hbc c1.out
                have k2 := (e2.out.below hbc).set i (iv32 (sub32 zv tv))
                have k1 := Lib.hid ((e1.out.below hbc).oth (c := p14) (i := i) (.int .u32 (iv32 (sub32 zv tv))) (fun e => hpq e.symm))
                have k3 := Lib.hid ((e3.out.below hbc).oth (c := p14) (i := i) (.int .u32 (iv32 (sub32 zv tv))) (by omega))
                have k4 := Lib.hid (xsetb (xtrans e4.out hbc) (c := p14) (i := i) (by omega) (.int .u32 (iv32 (sub32 zv tv))))
                have hDw := (Array.getElem?_eq_some_iff.1 e5.out).1
                have k5 := Lib.hid ((Below.heap_setCell Wc ⟨p14, i, none⟩ (.int .u32 (iv32 (sub32 zv tv))) D hDp14).trans ((hbc.block D hDw).trans e5.out))
                have ee : sub32 zv tv = (lessF l1 fk) i := by rw [hzv.out, htv.out]; rfl
                have k2' := k2
                rw [show iv32 (sub32 zv tv) = iv32 ((lessF l1 fk) i) from by rw [ee], part_succ (mixF l1 fk numB) (lessF l1 fk) i hlt, ← ee] at k2'
                replace k2 := Lib.hid k2'
                clear k2' ee hDw
                go_wp2
                exact ⟨⟨i + 1, by omega, rfl, k1.out, k2.out, k3.out, k4, k5⟩, by simp [intOf]; omega⟩
              · obtain rfl : i = 8 := by omega
                clear hlt hi
                rw [part_all] at hX hY
                have hXl : (rowI 8 (lessF l0 fk)).length = 8 := rowI_len _ _
                have hYl : (rowI 8 (lessF l1 fk)).length = 8 := rowI_len _ _
                have hAl : A0.length = 8 ∧ A1.length = 8 := by rw [hL0e.out, hL1e.out, rowI_len, rowI_len]; exact ⟨rfl, rfl⟩
                have hdd : decide (rowI 8 (lessF l0 fk) = rowI 8 (lessF l1 fk)) = decide (A0 = A1) := by rw [hL0e.out, hL1e.out]; exact decide_eq_decide.2 (mix_less l0 l1 fk numB)
                generalize rowI 8 (lessF l0 fk) = XL at hX hXl hdd
                generalize rowI 8 (lessF l1 fk) = YL at hY hYl hdd
                obtain ⟨bv, hbv⟩ : ∃ bv, bv = decide (A0 = A1) := ⟨_, rfl⟩
                rw [← hbv] at hdd
                replace hX := Lib.hid hX
                replace hY := Lib.hid hY
                replace hwz := Lib.hid hwz
                replace hXl := Lib.hid hXl
                replace hYl := Lib.hid hYl
                replace hAl := Lib.hid hAl
                replace hdd := Lib.hid hdd
                replace hbv := Lib.hid hbv
                go_wp2
                refine wp_region_growL 12 [fixd (.agg ((XL).map (Value.int .u32)).toArray), fixd (.agg ((YL).map (Value.int .u32)).toArray), fixd (.bool bv), fixd (.pointer (some ⟨w.heap.size, 0, none⟩)), fixd (.agg ((A0).map (Value.int .u32)).toArray), fixd (.pointer (some ⟨w.heap.size, 8, none⟩)), fixd (.agg ((A1).map (Value.int .u32)).toArray), fixd (.bool bv), fixd (.bool true), fixd (.bool true), fixd (.bool true), fixd (.bool true)] (by kernel_rfl) (by kernel_rfl) ?_
                simp only [List.take_succ_cons, List.take_zero, List.drop_succ_cons, List.drop_zero]
                try simp only [Act.put, List.setIfInBounds_toArray, List.set_cons_succ, List.set_cons_zero, List.nil_append, List.cons_append]
                refine wpGrowV_load_blk rfl 29 _ rfl p13 rfl .u32 29 (XL) _ _ (hX.out) Try.underlying29 (by rw [hXl.out]; kernel_rfl) rfl ?_
                try simp only [Act.put, List.setIfInBounds_toArray, List.set_cons_succ, List.set_cons_zero, List.nil_append, List.cons_append]
                refine wpGrowV_load_blk rfl 29 _ rfl p14 rfl .u32 29 (YL) _ _ (hY.out) Try.underlying29 (by rw [hYl.out]; kernel_rfl) rfl ?_
                try simp only [Act.put, List.setIfInBounds_toArray, List.set_cons_succ, List.set_cons_zero, List.nil_append, List.cons_append]
                refine wpGrowV_fix (.bool bv) rfl rfl (fun W hb _ => ?_) ?_
                · rw [run_eql_at 29 _ (.tmp 95) (.tmp 96) rfl 28 8 .u32 .u32 XL YL rfl rfl Try.underlying29 Try.underlying28 (by kernel_rfl) (by kernel_rfl) (by kernel_rfl) hXl.out hYl.out, hdd.out]
                  exact ⟨rfl, xrefl W⟩
                try simp only [Act.put, List.setIfInBounds_toArray, List.set_cons_succ, List.set_cons_zero, List.nil_append, List.cons_append]
                refine wpGrowV_fix _ rfl rfl (fun W hb _ => by go_simp; first | exact xrefl W | exact ⟨rfl, xrefl W⟩) ?_
                try simp only [Act.put, List.setIfInBounds_toArray, List.set_cons_succ, List.set_cons_zero, List.nil_append, List.cons_append]
                refine wpGrowV_fix (.agg ((A0).map (Value.int .u32)).toArray) rfl rfl (fun W hb _ => ?_) ?_
                · rw [run_load_mid 29 _ rfl w.heap.size 0 rfl .u32 42 L 8 _ _ (hwz.out.below hb) Try.underlying29 (by kernel_rfl) (by rw [hLl.out]; decide), hA0.out]
                  exact ⟨rfl, xrefl W⟩
                try simp only [Act.put, List.setIfInBounds_toArray, List.set_cons_succ, List.set_cons_zero, List.nil_append, List.cons_append]
                refine wpGrowV_fix _ rfl rfl (fun W hb _ => by go_simp; first | exact xrefl W | exact ⟨rfl, xrefl W⟩) ?_
                try simp only [Act.put, List.setIfInBounds_toArray, List.set_cons_succ, List.set_cons_zero, List.nil_append, List.cons_append]
                refine wpGrowV_fix (.agg ((A1).map (Value.int .u32)).toArray) rfl rfl (fun W hb _ => ?_) ?_
                · rw [run_load_mid 29 _ rfl w.heap.size 8 rfl .u32 42 L 8 _ _ (hwz.out.below hb) Try.underlying29 (by kernel_rfl) (by rw [hLl.out]; decide), hA1.out]
                  exact ⟨rfl, xrefl W⟩
                try simp only [Act.put, List.setIfInBounds_toArray, List.set_cons_succ, List.set_cons_zero, List.nil_append, List.cons_append]
                refine wpGrowV_fix (.bool bv) rfl rfl (fun W hb _ => ?_) ?_
                · rw [run_eql_at 29 _ (.tmp 99) (.tmp 101) rfl 28 8 .u32 .u32 A0 A1 rfl rfl Try.underlying29 Try.underlying28 (by kernel_rfl) (by kernel_rfl) (by kernel_rfl) hAl.out.1 hAl.out.2, ← hbv.out]
                  exact ⟨rfl, xrefl W⟩
                try simp only [Act.put, List.setIfInBounds_toArray, List.set_cons_succ, List.set_cons_zero, List.nil_append, List.cons_append]
                refine wpGrowV_fix (.bool true) rfl rfl (fun W hb _ => by cases bv <;> (go_simp; first | exact xrefl W | exact ⟨rfl, xrefl W⟩)) ?_
                try simp only [Act.put, List.setIfInBounds_toArray, List.set_cons_succ, List.set_cons_zero, List.nil_append, List.cons_append]
                refine wpGrowV_fix _ rfl rfl (fun W hb _ => by go_simp; first | exact xrefl W | exact ⟨rfl, xrefl W⟩) ?_
                try simp only [Act.put, List.setIfInBounds_toArray, List.set_cons_succ, List.set_cons_zero, List.nil_append, List.cons_append]
                refine wpGrowV_fix (.bool true) rfl rfl (fun W hb _ => ?_) ?_
                · go_simp
                  go_at_call 7
                  refine (works_any W).mono ?_
                  rintro e w' ⟨rfl, hb'⟩
                  exact ⟨rfl, hb'⟩
                try simp only [Act.put, List.setIfInBounds_toArray, List.set_cons_succ, List.set_cons_zero, List.nil_append, List.cons_append]
                refine wpGrowV_fix _ rfl rfl (fun W hb _ => by go_simp; first | exact xrefl W | exact ⟨rfl, xrefl W⟩) ?_
                try simp only [Act.put, List.setIfInBounds_toArray, List.set_cons_succ, List.set_cons_zero, List.nil_append, List.cons_append]
                refine wpGrowV_nil fun Wd hbd _ => ?_
                have hDw := (Array.getElem?_eq_some_iff.1 hdz.out).1
                have hKd := (hbd.block D hDw).trans hdz.out
                have hbE := xtrans hbz.out hbd
                replace hKd := Lib.hid hKd
                replace hbE := Lib.hid hbE
                go_wp2
                have hput := (Only.refl (· = D) Wd).putObj D (.deferred none) rfl
                have hDl : w.heap.size + 1 < D := by omega
                refine ⟨by simp [Act.put], .inl ⟨_, _, rfl, run_takeDeferred hKd.out, ?_⟩⟩
                exact ⟨_, results_tmp rfl _ _ _, rfl, hput.below hbE.out hbE.out.size (by rintro i rfl; omega)⟩


set_option maxRecDepth 100000 in
theorem shaHolds_walk (a : Option Addr) (c : Nat) (zs ys : List Int) (w : World) (hl : zs.length ≤ 9223372036854775807) (hr : RowAt .u8 w a zs) (ha : a = none → c = 0) (hw : ∀ z ∈ zs, (Lit.int .u8 z).wf = true) (hyl : ys.length = 16) (hyw : ∀ z ∈ ys, (Lit.int .u32 z).wf = true) :
    Calls Try.prog 6 #[.slice a zs.length c, .agg (ys.map (Value.int .u32)).toArray] w (Yes w) := by
  obtain ⟨bs, hbs⟩ := bytes_of zs hw
  clear hw
  by_cases h : (zs.length : Int) > 300
  · replace hr := Lib.hid hr
    replace hbs := Lib.hid hbs
    replace hyl := Lib.hid hyl
    clear hyw
    refine (callsIn_wide (n := 0)).1 ?_
    refine callsIn_of_wp_marks Try.func6 rfl trivial ?_ rfl
    simp only [Try.ntmps6, List.size_toArray, List.length_cons, List.length_nil, Nat.reduceAdd, Nat.reduceSub, Array.replicate_succ, Array.replicate_zero, List.push_toArray, List.append_toArray, List.nil_append, List.cons_append]
    refine wpIn_wide.2 ?_
    go_wp2_with (go_at_call 7; refine (works_any _).mono ?_; rintro e w3 ⟨rfl, b3⟩)
    exact ⟨_, results_tmp rfl _ _ _, rfl, xtrans (xalloc (xrefl w) _) b3⟩
  · have hbl : bs.length = zs.length := by rw [hbs]; simp
    obtain ⟨f, hf⟩ := row_of (ys.take 8) (fun z hz => hyw z (List.mem_of_mem_take hz))
    obtain ⟨g, hg⟩ := row_of (ys.drop 8) (fun z hz => hyw z (List.mem_of_mem_drop hz))
    rw [List.length_take, hyl] at hf
    rw [List.length_drop, hyl] at hg
    have hy : ys = rowI 8 f ++ rowI 8 g := by rw [← List.take_append_drop 8 ys, hf, hg]; rfl
    have := shaHolds_go bs a c ys f g w (by omega) (by rw [← hbs]; exact hr) ha hy
    rwa [hbl] at this
end Go.Proofs.Ytfieagpidplmoaa
