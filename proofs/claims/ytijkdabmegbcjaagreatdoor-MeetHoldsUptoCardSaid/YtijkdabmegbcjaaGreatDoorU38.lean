/- Texts of this claim, merged; no condition. -/
import Derived.Test.YtijkdabmegbcjaaGreatDoorU36
import Derived.Test.YtijkdabmegbcjaaGreatDoorU37
import Derived.Test.YtijkdabmegbcjaaGreatDoorU21
set_option linter.all false
namespace Go.Proofs.YtijkdabmegbcjaaGreatDoor
open Go.RowKit Go.Shelf
attribute [local go_sem] Oper.semAt_some

set_option maxRecDepth 100000 in
set_option maxHeartbeats 1000000 in
theorem refFindS_any (bs : List BlkN) (n : Int) (a : Option Addr) (c : Nat) (wS w : World) (h : BlksAt wS a c bs) (hwS : Below wS.heap.size wS w) (hl : bs.length ≤ 1000) :
    Calls Tryz.prog 34 #[.slice a bs.length c, .int .i64 n] w (fun e w' => (∃ p q, e = .returned (.tuple #[blkV p q ((findZ bs n).getD blk0), .bool (findZ bs n).isSome]) ∧ IntsAt wS p q ((findZ bs n).getD blk0).next) ∧ Below w.heap.size w w') := by
  have hB0 : Hid (BlkG (w.alloc (.cells #[.int .i64 0, .int .i64 0, .slice none 0 0, .bool false] 51)) w.heap.size 51 (blkC none 0 blk0)) := Lib.hid (BlkG.new w _ (blkC none 0 blk0))
  have hb0 : Hid (Below w.heap.size w (w.alloc (.cells #[.int .i64 0, .int .i64 0, .slice none 0 0, .bool false] 51))) := Lib.hid (xalloc (xrefl w) _)
  obtain ⟨fs, hu⟩ := struct_block
  have hyes : Hid (∀ k, (hk : k < bs.length) → (bs[k].first : Int) = n → (∀ j, (hj : j < bs.length) → j < k → (bs[j].first : Int) ≠ n) → findZ bs n = some bs[k]) := Lib.hid fun k hk e hn => find_some hk (by simpa using e) fun j hj hjk => by simpa using hn j hj hjk
  have hno : Hid ((∀ j, (hj : j < bs.length) → (bs[j].first : Int) ≠ n) → findZ bs n = none) := Lib.hid fun hn => find_no fun j hj => by simpa using hn j hj
  have h2 := Lib.hid h
  clear h
  generalize findZ bs n = r at *
  go_enter Tryz.func34, Tryz.ntmps34
  go_wp2
  go_loop [6] (fun i => ∃ k : Nat, k ≤ bs.length ∧ i = .int .i64 k ∧ Hid (∀ j, (h : j < bs.length) → j < k → (bs[j].first : Int) ≠ n)) (fun i => bs.length - (intOf i).toNat)
  case atStart => exact ⟨0, by omega, rfl, Lib.hid fun j _ h => by omega⟩
  case round =>
    obtain ⟨k, hk, rfl, hs⟩ := hrel
    by_cases hlt : k < bs.length
    · have hltI : (k : Int) < bs.length := by omega
      obtain ⟨b, o, p, q, rfl, hr, hI⟩ := h2.out.elt k hlt
      replace hr := rangeAt_below (rangeAt_below hr hwS) hb0.out
      have hc := (range_blk hr).1
      by_cases e : (bs[k].first : Int) = n
      · have hrr := hyes.out k hlt e hs.out
        subst hrr
        rw [e] at hc
        replace e := Lib.hid e
        replace hr := Lib.hid hr
        replace hI := Lib.hid hI
        go_wp2_with (first
          | (refine wpList_load_mid rfl 51 _ rfl b (o + k * 4) rfl (blkC p q bs[k]) _ hr.out hu rfl (by kernel_rfl) ?_)
          | (refine wpList_store_blkG rfl 51 _ _ rfl w.heap.size rfl 51 (blkC none 0 blk0) (blkC p q bs[k]) hB0.out rfl rfl (by kernel_rfl) rfl ?_; intro w2 hB2 ho2; replace hB2 := Lib.hid hB2; replace ho2 := Lib.hid ho2))
        refine bodyPost_ret (results_blkG2 (p := 4) rfl _ _ w.heap.size 51 _ _ rfl hB2.out hu rfl (by kernel_rfl)) rfl ?_
        have hb2 := ho2.out.below hb0.out hb0.out.size (by rintro i rfl; omega)
        exact ⟨⟨p, q, rfl, hI.out⟩, hb2⟩
      · have hs2 : Hid (∀ j, (h : j < bs.length) → j < k + 1 → (bs[j].first : Int) ≠ n) := Lib.hid fun j h hj => by
          by_cases e2 : j = k
          · subst e2; exact e
          · exact hs.out j h (by omega)
        generalize (bs[k].first : Int) = y at *
        clear hr hI
        go_wp2
        exact ⟨⟨k + 1, by omega, rfl, hs2⟩, by simp [intOf]; omega⟩
    · obtain rfl : k = bs.length := by omega
      have hrr := hno.out fun j h => hs.out j h h
      subst hrr
      clear hlt
      go_wp2_with (refine wpList_store_blkG rfl 51 _ _ rfl w.heap.size rfl 51 (blkC none 0 blk0) (blkC none 0 blk0) hB0.out rfl rfl (by kernel_rfl) rfl ?_; intro w2 hB2 ho2; replace hB2 := Lib.hid hB2; replace ho2 := Lib.hid ho2)
      refine bodyPost_ret (results_blkG2 (p := 4) rfl _ _ w.heap.size 51 _ _ rfl hB2.out hu rfl (by kernel_rfl)) rfl ⟨⟨none, 0, rfl, intsAt_nil _⟩, ?_⟩
      exact ho2.out.below hb0.out hb0.out.size (by rintro i rfl; omega)
theorem findI_has {n : Int} : ∀ {l : List (Int × Value)}, n ∈ l.map (·.1) → ∃ v, findI n l = some v ∧ (n, v) ∈ l
  | [], h => by cases h
  | x :: l, h => by
    have e : findI n (x :: l) = if n = x.1 then some x.2 else findI n l := rfl
    by_cases hx : n = x.1
    · exact ⟨x.2, by rw [e, if_pos hx], by rw [hx]; simp⟩
    · rw [List.map_cons, List.mem_cons] at h
      obtain ⟨v, h1, h2⟩ := findI_has (h.resolve_left hx)
      exact ⟨v, by rw [e, if_neg hx]; exact h1, List.mem_cons_of_mem _ h2⟩
set_option maxRecDepth 100000 in
theorem OneAt.yes {W : World} {bm x : Nat} {K : List Nat} (h : OneAt W bm K) (hx : x ∈ K) : (Instr.lookup 52 (.map (some bm)) (.int .i64 x) false).run Tryz.prog W = .ok (.int .i64 1) W := by
  obtain ⟨l, h1, h2, h3⟩ := h
  have hz : ∀ w, (zeroValue 3).run Tryz.prog w = .ok (.int .i64 0) w := fun _ => rfl
  obtain ⟨v, e1, e2⟩ := findI_has (n := (x : Int)) (l := l) (by rw [h2]; exact List.mem_map.2 ⟨x, hx, rfl⟩)
  rw [run_lookI Tryz.underlying52 Tryz.underlying3 hz _ W bm l false h1, if_neg (by decide), e1, Option.getD_some]
  have e3 : v = .int .i64 1 := h3 _ e2
  rw [e3]
set_option maxRecDepth 100000 in
theorem OneAt.not {W : World} {bm x : Nat} {K : List Nat} (h : OneAt W bm K) (hx : x ∉ K) : (Instr.lookup 52 (.map (some bm)) (.int .i64 x) false).run Tryz.prog W = .ok (.int .i64 0) W := by
  obtain ⟨l, h1, h2, h3⟩ := h
  have hz : ∀ w, (zeroValue 3).run Tryz.prog w = .ok (.int .i64 0) w := fun _ => rfl
  rw [run_lookI Tryz.underlying52 Tryz.underlying3 hz _ W bm l false h1, if_neg (by decide), findI_key (by rw [h2]; intro h; obtain ⟨y, hy, e⟩ := List.mem_map.1 h; exact hx (by rwa [show y = x by omega] at hy))]
  rfl
/-- What has come of a line: the number, the places. -/
def HoL (n9 sm sb : Nat) (R : List Nat) (k : Nat) (S : Nat → Prop) (W : World) : Prop := (∀ j, S j → j < W.heap.size) ∧ S n9 ∧ S sm ∧ S sb ∧ Box W n9 (.int .i64 (k : Int)) 3 ∧ Box W sb (.map (some sm)) 52 ∧ ∃ K, OneAt W sm K ∧ ∀ y, y ∈ K ↔ y ∈ R.take k
theorem HoL.fac {n9 sm sb : Nat} {R : List Nat} {k : Nat} {S : Nat → Prop} : Fac S (HoL n9 sm sb R k S) :=
  ⟨fun W W' ⟨h1, h2, h3, h4, h5, h6, K, ⟨l, e, r⟩, h8⟩ hz hs => ⟨fun j hj => Nat.lt_of_lt_of_le (h1 j hj) hz, h2, h3, h4, (hs _ h2 (h1 _ h2)).trans h5, (hs _ h4 (h1 _ h4)).trans h6, K, ⟨l, (hs _ h3 (h1 _ h3)).trans e, r⟩, h8⟩, fun W h => h.1⟩
/-- What Find tells. -/
def findT (w1 : World) (C : BlkN) : Told := ⟨fun v => ∃ p q, v = .tuple #[.agg #[.int .i64 C.first, .int .i64 C.last, .slice p C.next.length q, .bool C.exit], .bool true],
  fun v _ => ∀ p q, v = .tuple #[.agg #[.int .i64 C.first, .int .i64 C.last, .slice p C.next.length q, .bool C.exit], .bool true] → IntsAt w1 p q C.next, ⟨_, none, 0, rfl⟩, fun _ _ _ h _ => h⟩
/-- What the law's walk over blocks finds in memory. -/
structure HoS (bs : List BlkN) (w1 : World) (xb tb : Nat) (B : BlkN) (K : List Nat) (p : Option Addr) (q : Nat) (W : World) : Prop where
  at_ : AtB bs B K
  blk : BlkG W xb 51 [.int .i64 B.first, .int .i64 B.last, .slice p B.next.length q, .bool B.exit]
  nxt : IntsAt w1 p q B.next
  one : OneAt W tb K
set_option maxRecDepth 100000 in
set_option maxHeartbeats 8000000 in
theorem meetHolds_go (cs ys : List Nat) (a a2 : Option Addr) (c c2 : Nat) (w : World) (hC : CodeAt w a c cs) (hY : RowAt .u8 w a2 (natI ys)) (hY2 : ∀ y ∈ ys, y < 256) (hl : cs.length ≤ 80) (hl2 : ys.length ≤ 60) (h0 : 0 < (blksN cs).length) :
    Calls Tryz.prog 8 #[.slice a cs.length c, .slice a2 ys.length c2] w (Yes w) := by
  have g := graph_code cs
  have hbl := blksN_len cs
  have hlb : ¬ ((cs.length : Int) > 80) := by omega
  replace hY := Lib.hid hY
  replace hY2 := Lib.hid hY2
  have hlb2 : ¬ ((ys.length : Int) > 60) := by omega
  have hlb3 : ((((blksN cs).length : Nat) : Int) == 0) = false := by rw [beq_eq_false_iff_ne]; omega
  have hb0 : Below w.heap.size w (w.alloc (.cells #[.bool false] 4)) := xalloc (xrefl w) _
  have br0 : Hid (Box (w.alloc (.cells #[.bool false] 4)) w.heap.size (.bool false) 4) := Lib.hid (Box.new w _ _)
  have hbk := refBlocks_any cs a c _ (hC.below hb0)
  have hfst := blks_first h0
  obtain ⟨bs, hbs⟩ : ∃ bs, blksN cs = bs := ⟨_, rfl⟩
  simp only [hbs] at g hbl hlb3 hbk h0 hfst
  replace hfst := Lib.hid hfst
  replace hbs := Lib.hid hbs
  replace hbk := Lib.hid hbk
  replace hb0 := Lib.hid hb0
  replace hC := Lib.hid hC
  refine (callsIn_wide (n := 0)).1 ?_
  refine callsIn_of_wp_marks Tryz.func8 rfl trivial ?_ rfl
  simp only [Tryz.ntmps8, List.size_toArray, List.length_cons, List.length_nil, Nat.reduceAdd, Nat.reduceSub, Array.replicate_succ, Array.replicate_zero, List.push_toArray, List.append_toArray, List.nil_append, List.cons_append]
  refine wpIn_wide.2 ?_
  have hu := Tryz.underlying51
  have hmm : ∀ w, (Instr.makeMap 52 none).run Tryz.prog w = .ok (.map (some w.heap.size)) (w.alloc (.map #[] 0)) := fun _ => rfl
  go_wp2_with (first
    | (go_at_call 15; refine hbk.out.mono ?_; rintro e w1 ⟨⟨p, q, rfl, hP, -⟩, hb1⟩; obtain ⟨bb, bo, p0, q0, rfl, hr0, hI0⟩ := hP.elt 0 h0; have br1 := Lib.hid (br0.out.below hb1); replace hb1 := Lib.hid (xtrans hb0.out hb1); replace hP := Lib.hid hP; replace hr0 := Lib.hid hr0; have hB0m := List.getElem_mem h0; have hf0 := hfst.out; have hr0' : w1.rangeAt bb bo [.int .i64 bs[0].first, .int .i64 bs[0].last, .slice p0 bs[0].next.length q0, .bool bs[0].exit] := (by have := hr0; rw [Nat.zero_mul, Nat.add_zero] at this; exact this); have hA0 := AtB.start hB0m hf0; have hff : (bs[0].first : Int) = 0 := (by omega); generalize bs[0] = B0 at *; replace hA0 := Lib.hid hA0; replace hr0' := Lib.hid hr0'; replace hI0 := Lib.hid hI0; replace hff := Lib.hid hff; clear hbk br0 hr0 hB0m hf0 hfst)
    | (refine wpList_load_mid rfl 51 _ rfl bb bo rfl [.int .i64 B0.first, .int .i64 B0.last, .slice p0 B0.next.length q0, .bool B0.exit] _ hr0'.out hu rfl (by kernel_rfl) ?_)
    | (refine wpList_store_blkG rfl 51 _ _ rfl w1.heap.size rfl 51 [.int .i64 0, .int .i64 0, .slice none 0 0, .bool false] [.int .i64 B0.first, .int .i64 B0.last, .slice p0 B0.next.length q0, .bool B0.exit] (BlkG.new w1 _ _) rfl rfl (by kernel_rfl) rfl ?_; intro w2 hX2 ho2; have hb2 := Lib.hid (ho2.below (xalloc (xrefl w1) _) (xalloc (xrefl w1) _).size (by rintro k rfl; exact Nat.le_refl _)); have hs2 : w1.heap.size < w2.heap.size := (by have := hX2.lt; exact this); have hb2m : Below w2.heap.size w2 (w2.alloc (.map #[] 0)) := xalloc (xrefl w2) _; have hX2m := Lib.hid (hX2.below hb2m); have cF := (hX2.below hb2m).cell 0 (by simp); have hm2 : (w2.alloc (.map #[] 0)).heap[w2.heap.size]? = some (mapI .i64 []) := World.alloc_heap_new w2 _; replace hm2 := Lib.hid hm2; replace hb2m := Lib.hid (xtrans hb2.out hb2m); clear hb2; replace hX2 := Lib.hid hX2; clear ho2)
    | (refine wpList_insertI rfl 52 3 3 .i64 _ _ _ rfl Tryz.underlying52 Tryz.underlying3 w2.heap.size (B0.first : Int) (.int .i64 1) [] rfl rfl rfl hm2.out ?_; intro w3 hm3 ho3; have hO3 : OneAt w3 w2.heap.size [B0.first] := OneAt.upd (K := []) rfl (by simp) B0.first hm3; have hX3 := Lib.hid (hX2m.out.only ho3 (by omega)); have hb3 := Lib.hid (ho3.below hb2m.out hb2m.out.size (by rintro k rfl; omega)); replace hO3 := Lib.hid hO3; clear hm3 ho3))
  have hbL := Lib.hid (xalloc hb3.out (.cells #[.map (some w2.heap.size)] 52))
  have hbm3 : Below w3.heap.size w3 (w3.alloc (.cells #[.map (some w2.heap.size)] 52)) := xalloc (xrefl w3) _
  have hT := Lib.hid (Box.new w3 (.map (some w2.heap.size)) 52)
  have hH0 : Hid (HoS bs w1 w1.heap.size w2.heap.size B0 [B0.first] p0 q0 (w3.alloc (.cells #[.map (some w2.heap.size)] 52))) := Lib.hid ⟨hA0.out, hX3.out.below hbm3, hI0.out, hO3.out.below hbm3⟩
  have hsL : (w3.alloc (.cells #[.map (some w2.heap.size)] 52)).heap.size = w3.heap.size + 1 := World.size_alloc _ _
  have hs3 : w2.heap.size < w3.heap.size := hO3.out.lt
  obtain ⟨wL, hwL⟩ : ∃ wL, w3.alloc (.cells #[.map (some w2.heap.size)] 52) = wL := ⟨_, rfl⟩
  rw [hwL] at hbL hT hH0 hsL ⊢
  clear hwL hbm3 hO3 hX3 hX2m hX2 hb3 hb2m hm2 hA0 hr0' hI0 hff cF
  generalize w3.heap.size = tB at *
  generalize w2.heap.size = tb at *
  replace hsL := Lib.hid hsL
  have hsL' : tB < wL.heap.size := by rw [hsL.out]; exact Nat.lt_succ_self _
  go_loopw [8] (fun iv wx => ∃ (i : Nat) (B : BlkN) (K : List Nat) (p : Option Addr) (q : Nat), iv = .int .i64 i ∧ i ≤ ys.length ∧ Hid (HoS bs w1 w1.heap.size tb B K p q wx) ∧ Hid (Only (fun k => k = w1.heap.size ∨ k = tb) wL wx)) (fun iv _ => ys.length - (intOf iv).toNat)
  case atStart => exact ⟨0, B0, [B0.first], p0, q0, rfl, by omega, hH0, Lib.hid (Only.refl _ _)⟩
  case round =>
    clear hH0
    obtain ⟨i, B, K, p', q', rfl, hi, hH, hon⟩ := hrel
    have cX2 := hH.out.blk.cell 2 (by simp)
    simp only [List.getElem_cons_succ, List.getElem_cons_zero] at cX2
    go_upto_region 7 with fail
    go_cut [47] from 38 to 70 (fun v wx => v = .bool (decide (i < ys.length ∧ B.next ≠ [])) ∧ wx = wr)
    case first =>
      by_cases h1 : i < ys.length
      · have h1I : (i : Int) < ys.length := by omega
        by_cases h2 : B.next = []
        · have h2I : (B.next.length : Int) = 0 := by rw [h2]; rfl
          go_wp2
          go_meet
          exact ⟨by rw [decide_eq_false (by rw [h2]; simp)], rfl⟩
        · have h2I : (0 : Int) < B.next.length := by have := List.length_pos_iff.2 h2; omega
          have hd := Lib.hid (decide_eq_true (p := i < ys.length ∧ B.next ≠ []) ⟨h1, h2⟩)
          have hd2 := Lib.hid (decide_eq_true (List.length_pos_iff.2 h2))
          go_wp2
          go_meet
          exact ⟨by rw [hd.out, hd2.out], rfl⟩
      · have h1I : ¬ (i : Int) < ys.length := by omega
        go_wp2
        go_meet
        exact ⟨by rw [decide_eq_false (fun h => h1 h.1)], rfl⟩
    case rest =>
      obtain ⟨rfl, hwc⟩ := hcut
      replace hwc := hwc.symm
      subst hwc
      by_cases hgo : i < ys.length ∧ B.next ≠ []
      · rw [decide_eq_true hgo]
        obtain ⟨h1, h2⟩ := hgo
        have h1I : (i : Int) < ys.length := by omega
        have hm0 : 0 < B.next.length := List.length_pos_iff.2 h2
        have hbr : Below w1.heap.size w1 wr := hon.out.below hbL.out hbL.out.size (by rintro k (rfl | rfl) <;> omega)
        obtain ⟨yb, yo, rfl, hcy⟩ := hY.out i (by rw [natI_len]; exact h1)
        have cY : wr.cell? ⟨yb, yo + i, none⟩ = some (.int .u8 ((ys[i] : Nat) : Int)) := cbel (xtrans hb1.out hbr) (by rw [hcy, natI_get])
        have hy256 := hY2.out ys[i] (List.getElem_mem h1)
        generalize ys[i] = y at *
        obtain ⟨r, hr⟩ : ∃ r, r = y % B.next.length := ⟨_, rfl⟩
        have hrm : r < B.next.length := by rw [hr]; exact Nat.mod_lt _ hm0
        have hrI : (r : Int) < B.next.length := by omega
        have hwy : IntKind.i64.wrap (y : Int) = (y : Int) := by simp [IntKind.wrap, IntKind.bits, IntKind.signed]; omega
        have htm : Int.tmod (y : Int) (B.next.length : Int) = (r : Int) := by rw [hr, Int.natCast_emod]; exact Int.tmod_eq_emod_of_nonneg (by omega)
        obtain ⟨nb, no, rfl, hcn⟩ := hH.out.nxt.get hrm
        have cN : wr.cell? ⟨nb, no + r, none⟩ = some (.int .i64 ((B.next[r] : Nat) : Int)) := cbel hbr hcn
        obtain ⟨C, hC1, hC2, hA2⟩ := hH.out.at_.next g (List.getElem_mem hrm)
        have hfd := Lib.hid fun W (hW : Below wr.heap.size wr W) => refFindS_any bs ((B.next[r] : Nat) : Int) _ q w1 W hP.out (xtrans hbr hW) (by omega)
        rw [hC1] at hfd
        generalize B.next[r] = j at *
        replace hA2 := Lib.hid hA2
        clear hcy hcn hr hC1 hC2
        go_wp2
        refine' wp_region_growT 15 [fixd _, fixd _, fixd _, fixd _, fixd _, fixd _, fixd _, fixd _, fixd _, fixd _, fixd _, fixd _, fixd _, fixd _, findT w1 C] (by kernel_rfl) (by kernel_rfl) ?_
        rotate_left 14
        simp only [List.take_succ_cons, List.take_zero, List.drop_succ_cons, List.drop_zero]
        try simp only [Act.put, List.setIfInBounds_toArray, List.set_cons_succ, List.set_cons_zero, List.nil_append, List.cons_append]
        refine' wpGrowV_fix _ rfl rfl (fun W hb _ => by go_simp; first | exact xrefl W | exact ⟨rfl, xrefl W⟩) ?_
        try simp only [Act.put, List.setIfInBounds_toArray, List.set_cons_succ, List.set_cons_zero, List.nil_append, List.cons_append]
        refine' wpGrowV_fix _ rfl rfl (fun W hb _ => by go_simp; first | exact xrefl W | exact ⟨rfl, xrefl W⟩) ?_
        try simp only [Act.put, List.setIfInBounds_toArray, List.set_cons_succ, List.set_cons_zero, List.nil_append, List.cons_append]
        refine' wpGrowV_fix _ rfl rfl (fun W hb _ => by have c := cbel hb cX2; go_simp; first | exact xrefl W | exact ⟨rfl, xrefl W⟩) ?_
        try simp only [Act.put, List.setIfInBounds_toArray, List.set_cons_succ, List.set_cons_zero, List.nil_append, List.cons_append]
        refine' wpGrowV_fix _ rfl rfl (fun W hb _ => by go_simp; first | exact xrefl W | exact ⟨rfl, xrefl W⟩) ?_
        try simp only [Act.put, List.setIfInBounds_toArray, List.set_cons_succ, List.set_cons_zero, List.nil_append, List.cons_append]
        refine' wpGrowV_fix _ rfl rfl (fun W hb _ => by go_simp; first | exact xrefl W | exact ⟨rfl, xrefl W⟩) ?_
        try simp only [Act.put, List.setIfInBounds_toArray, List.set_cons_succ, List.set_cons_zero, List.nil_append, List.cons_append]
        refine' wpGrowV_fix _ rfl rfl (fun W hb _ => by go_simp; first | exact xrefl W | exact ⟨rfl, xrefl W⟩) ?_
        try simp only [Act.put, List.setIfInBounds_toArray, List.set_cons_succ, List.set_cons_zero, List.nil_append, List.cons_append]
        refine' wpGrowV_fix _ rfl rfl (fun W hb _ => by have c := cbel hb cY; go_simp; first | exact xrefl W | exact ⟨rfl, xrefl W⟩) ?_
        try simp only [Act.put, List.setIfInBounds_toArray, List.set_cons_succ, List.set_cons_zero, List.nil_append, List.cons_append]
        refine' wpGrowV_fix _ rfl rfl (fun W hb _ => by go_simp; first | exact xrefl W | exact ⟨rfl, xrefl W⟩) ?_
        try simp only [Act.put, List.setIfInBounds_toArray, List.set_cons_succ, List.set_cons_zero, List.nil_append, List.cons_append]
        refine' wpGrowV_fix _ rfl rfl (fun W hb _ => by go_simp; first | exact xrefl W | exact ⟨rfl, xrefl W⟩) ?_
        try simp only [Act.put, List.setIfInBounds_toArray, List.set_cons_succ, List.set_cons_zero, List.nil_append, List.cons_append]
        refine' wpGrowV_fix _ rfl rfl (fun W hb _ => by have c := cbel hb cX2; go_simp; first | exact xrefl W | exact ⟨rfl, xrefl W⟩) ?_
        try simp only [Act.put, List.setIfInBounds_toArray, List.set_cons_succ, List.set_cons_zero, List.nil_append, List.cons_append]
        refine' wpGrowV_fix _ rfl rfl (fun W hb _ => by go_simp; first | exact xrefl W | exact ⟨rfl, xrefl W⟩) ?_
        try simp only [Act.put, List.setIfInBounds_toArray, List.set_cons_succ, List.set_cons_zero, List.nil_append, List.cons_append]
        refine' wpGrowV_fix (.int .i64 (r : Int)) rfl rfl (fun W hb _ => by go_simp; first | exact xrefl W | exact ⟨rfl, xrefl W⟩) ?_
        try simp only [Act.put, List.setIfInBounds_toArray, List.set_cons_succ, List.set_cons_zero, List.nil_append, List.cons_append]
        refine' wpGrowV_fix _ rfl rfl (fun W hb _ => by go_simp; first | exact xrefl W | exact ⟨rfl, xrefl W⟩) ?_
        try simp only [Act.put, List.setIfInBounds_toArray, List.set_cons_succ, List.set_cons_zero, List.nil_append, List.cons_append]
        refine' wpGrowV_fix _ rfl rfl (fun W hb _ => by have c := cbel hb cN; go_simp; first | exact xrefl W | exact ⟨rfl, xrefl W⟩) ?_
        try simp only [Act.put, List.setIfInBounds_toArray, List.set_cons_succ, List.set_cons_zero, List.nil_append, List.cons_append]
        refine wpGrowV_any (findT w1 C) rfl rfl (fun W hb hF => ?_) (fun v hv => ?_)
        · clear hF
          go_simp
          go_at_call 34
          refine (hfd.out W hb).mono ?_
          rintro e w' ⟨⟨p9, q9, rfl, hI9⟩, hb'⟩
          exact ⟨_, rfl, ⟨⟨p9, q9, rfl⟩, fun p8 q8 e8 => by cases e8; exact hI9⟩, hb'⟩
        obtain ⟨p8, q8, rfl⟩ := hv
        try simp only [Act.put, List.setIfInBounds_toArray, List.set_cons_succ, List.set_cons_zero, List.nil_append, List.cons_append]
        refine wpGrowV_nil fun W5 hb5 hmem => ?_
        have hI9 := Lib.hid (hmem 14 (by decide) p8 q8 rfl)
        clear hmem
        have hX5 := Lib.hid (hH.out.blk.below hb5)
        have hO5 := hH.out.one.below hb5
        have hT5 := ((hT.out.only hon.out (by omega)).below hb5)
        have hs5 : wr.heap.size ≤ W5.heap.size := hb5.size
        have hsr := hon.out.size
        replace hb5 := Lib.hid hb5
        replace hT5 := Lib.hid hT5
        replace hO5 := Lib.hid hO5
        clear cX2 cY cN hfd
        refine wpAny_one 15 _ (by kernel_rfl) rfl ?_
        go_wp2
        refine wpAny_two 16 17 _ _ (by kernel_rfl) rfl rfl ?_ ?_
        · go_wp2
          refine wpAny_two 17 18 _ _ (by kernel_rfl) rfl rfl ?_ ?_
          · go_wp2
            refine wpAny_one 18 _ (by kernel_rfl) rfl ?_
            go_wp2_with (refine wpList_store_blkG rfl 51 _ _ rfl w1.heap.size rfl 51 [.int .i64 B.first, .int .i64 B.last, .slice (some ⟨nb, no, none⟩) B.next.length q', .bool B.exit] [.int .i64 C.first, .int .i64 C.last, .slice p8 C.next.length q8, .bool C.exit] hX5.out rfl rfl (by kernel_rfl) rfl ?_; intro W6 hX6 ho6; have cT6 := (hT5.out.only ho6 (by omega)).cell; have cF6 := hX6.cell 0 (by simp); obtain ⟨lm, hm6, hk6, hv6⟩ := hO5.out.only ho6 (by omega); replace hm6 := Lib.hid hm6; replace hk6 := Lib.hid hk6; replace hv6 := Lib.hid hv6; replace hX6 := Lib.hid hX6; replace ho6 := Lib.hid ho6)
            first | (refine ⟨by kernel_rfl, ?_⟩) | (refine wpAny_end (by kernel_rfl) ?_)
            go_wp2_with (refine wpList_putI rfl _ 3 3 .i64 _ _ _ rfl (by kernel_rfl) (by kernel_rfl) tb (C.first : Int) (.int .i64 1) lm rfl rfl rfl hm6.out ?_; intro W7 hm7 ho7; have hO7 := Lib.hid (OneAt.upd hk6.out hv6.out C.first hm7); have hX7 := Lib.hid (hX6.out.only ho7 (by omega)); replace ho7 := Lib.hid ho7; clear hm7)
            have hon7 := Lib.hid ((hon.out.trans (Below.only hb5.out)).trans ((ho6.out.mono fun _ _ e => Or.inl e).trans (ho7.out.mono fun _ _ e => Or.inr e)))
            exact ⟨⟨i + 1, C, addK K C.first, p8, q8, by go_num, by omega, Lib.hid ⟨hA2.out, hX7.out, hI9.out, hO7.out⟩, hon7⟩, by simp [intOf]; omega⟩
          · go_wp2_with (refine wpList_store_blkG rfl 51 _ _ rfl w1.heap.size rfl 51 [.int .i64 B.first, .int .i64 B.last, .slice (some ⟨nb, no, none⟩) B.next.length q', .bool B.exit] [.int .i64 C.first, .int .i64 C.last, .slice p8 C.next.length q8, .bool C.exit] hX5.out rfl rfl (by kernel_rfl) rfl ?_; intro W6 hX6 ho6; have cT6 := (hT5.out.only ho6 (by omega)).cell; have cF6 := hX6.cell 0 (by simp); obtain ⟨lm, hm6, hk6, hv6⟩ := hO5.out.only ho6 (by omega); replace hm6 := Lib.hid hm6; replace hk6 := Lib.hid hk6; replace hv6 := Lib.hid hv6; replace hX6 := Lib.hid hX6; replace ho6 := Lib.hid ho6)
            refine wpAny_one 17 _ (by kernel_rfl) rfl ?_
            go_wp2
            first | (refine ⟨by kernel_rfl, ?_⟩) | (refine wpAny_end (by kernel_rfl) ?_)
            go_wp2_with (refine wpList_putI rfl _ 3 3 .i64 _ _ _ rfl (by kernel_rfl) (by kernel_rfl) tb (C.first : Int) (.int .i64 1) lm rfl rfl rfl hm6.out ?_; intro W7 hm7 ho7; have hO7 := Lib.hid (OneAt.upd hk6.out hv6.out C.first hm7); have hX7 := Lib.hid (hX6.out.only ho7 (by omega)); replace ho7 := Lib.hid ho7; clear hm7)
            have hon7 := Lib.hid ((hon.out.trans (Below.only hb5.out)).trans ((ho6.out.mono fun _ _ e => Or.inl e).trans (ho7.out.mono fun _ _ e => Or.inr e)))
            exact ⟨⟨i + 1, C, addK K C.first, p8, q8, by go_num, by omega, Lib.hid ⟨hA2.out, hX7.out, hI9.out, hO7.out⟩, hon7⟩, by simp [intOf]; omega⟩
        · go_wp2
          refine wpAny_one 16 _ (by kernel_rfl) rfl ?_
          go_wp2
          refine wpAny_one 18 _ (by kernel_rfl) rfl ?_
          go_wp2_with (refine wpList_store_blkG rfl 51 _ _ rfl w1.heap.size rfl 51 [.int .i64 B.first, .int .i64 B.last, .slice (some ⟨nb, no, none⟩) B.next.length q', .bool B.exit] [.int .i64 C.first, .int .i64 C.last, .slice p8 C.next.length q8, .bool C.exit] hX5.out rfl rfl (by kernel_rfl) rfl ?_; intro W6 hX6 ho6; have cT6 := (hT5.out.only ho6 (by omega)).cell; have cF6 := hX6.cell 0 (by simp); obtain ⟨lm, hm6, hk6, hv6⟩ := hO5.out.only ho6 (by omega); replace hm6 := Lib.hid hm6; replace hk6 := Lib.hid hk6; replace hv6 := Lib.hid hv6; replace hX6 := Lib.hid hX6; replace ho6 := Lib.hid ho6)
          first | (refine ⟨by kernel_rfl, ?_⟩) | (refine wpAny_end (by kernel_rfl) ?_)
          go_wp2_with (refine wpList_putI rfl _ 3 3 .i64 _ _ _ rfl (by kernel_rfl) (by kernel_rfl) tb (C.first : Int) (.int .i64 1) lm rfl rfl rfl hm6.out ?_; intro W7 hm7 ho7; have hO7 := Lib.hid (OneAt.upd hk6.out hv6.out C.first hm7); have hX7 := Lib.hid (hX6.out.only ho7 (by omega)); replace ho7 := Lib.hid ho7; clear hm7)
          have hon7 := Lib.hid ((hon.out.trans (Below.only hb5.out)).trans ((ho6.out.mono fun _ _ e => Or.inl e).trans (ho7.out.mono fun _ _ e => Or.inr e)))
          exact ⟨⟨i + 1, C, addK K C.first, p8, q8, by go_num, by omega, Lib.hid ⟨hA2.out, hX7.out, hI9.out, hO7.out⟩, hon7⟩, by simp [intOf]; omega⟩
      · rw [decide_eq_false hgo]
        clear hgo cX2 hY hY2 hi
        have hbr : Below w1.heap.size w1 wr := hon.out.below hbL.out hbL.out.size (by rintro k (rfl | rfl) <;> omega)
        have hTr := hT.out.only hon.out (by omega)
        have hsr := hon.out.size
        have hwr := xtrans hb1.out hbr
        have brr := Lib.hid (br1.out.below hbr)
        have hbh := Lib.hid (behindM_any cs 0 a c wr (hC.out.below hwr) (by omega))
        have hln := Lib.hid fun W (hW : Below wr.heap.size wr W) => line_any cs 0 a c W (hC.out.below (xtrans hwr hW)) (by omega)
        simp only [hbs.out] at hbh hln
        have hMl : (behindZ bs cs.length 0).length ≤ 100 := by have := behindZ_len (bs := bs) (D := cs.length) 0; omega
        obtain ⟨lf1, lf2, lf3⟩ := line_facts g
        have hall : Hid (B.exit = true → ∀ y ∈ lineZ bs cs.length 0, y ∈ K) := Lib.hid fun hx y hy => hH.out.at_.all g hx hy
        have hl200 : bs.length ≤ 200 := by omega
        have hBx := Lib.hid hH.out.blk
        have hBo := Lib.hid hH.out.one
        generalize hRR : lineZ bs cs.length 0 = R at *
        generalize hMM : behindZ bs cs.length 0 = M at *
        replace hRR := Lib.hid hRR
        replace hMM := Lib.hid hMM
        replace lf1 := Lib.hid lf1
        replace lf2 := Lib.hid lf2
        replace lf3 := Lib.hid lf3
        replace hTr := Lib.hid hTr
        replace hbr := Lib.hid hbr
        replace hwr := Lib.hid hwr
        have hnil := fun m k W => run_eql_fn_nil (P := Tryz.prog) 48 (by kernel_rfl) (.func 63) #[] #[.pointer (some ⟨m, 0, none⟩), .pointer (some ⟨k, 0, none⟩)] W
        clear hH hon hP hbL hsL hT
        go_wp2_with (first
          | (go_at_call 30; refine hbh.out.mono ?_; rintro e w4 ⟨⟨v4, rfl, hv4⟩, hb4⟩; obtain ⟨p4, q4, rfl, hM4, -⟩ := hv4.at; replace hM4 := Lib.hid hM4; replace hb4 := Lib.hid hb4; clear hv4 hbh)
          | (go_at_call 33; refine (hln.out _ (xalloc (xalloc (xalloc hb4.out _) _) _)).mono ?_; rintro e w5 ⟨⟨b5, b3, gb, rfl, hL⟩, hb5⟩; replace hL := Lib.hid hL; replace hb5 := Lib.hid hb5; clear hln))
        have e1 : (w4.alloc (.cells #[.int .i64 0] 3)).heap.size = w4.heap.size + 1 := World.size_alloc _ _
        have e2 : ((w4.alloc (.cells #[.int .i64 0] 3)).alloc (mapI .i64 [])).heap.size = w4.heap.size + 1 + 1 := by rw [World.size_alloc, e1]
        have hbox := Box.new w4 (.int .i64 0) 3
        have hmap := OneAt.new (w4.alloc (.cells #[.int .i64 0] 3))
        rw [e1] at hmap
        have hsbx := Box.new ((w4.alloc (.cells #[.int .i64 0] 3)).alloc (mapI .i64 [])) (.map (some (w4.heap.size + 1))) 52
        rw [e2] at hsbx
        have hW5 : Below w4.heap.size w4 w5 := xtrans (xalloc (xalloc (xalloc (xrefl w4) _) _) _) hb5.out
        have hsz5 : w4.heap.size + 1 + 1 + 1 ≤ w5.heap.size := by have := hb5.out.size; simpa [World.size_alloc] using this
        have hSt0 : HoL w4.heap.size (w4.heap.size + 1) (w4.heap.size + 1 + 1) R 0 (fun j => j = w4.heap.size ∨ j = w4.heap.size + 1 ∨ j = w4.heap.size + 1 + 1) w5 :=
          ⟨fun j hj => by omega, .inl rfl, .inr (.inl rfl), .inr (.inr rfl), (hbox.below (xalloc (xalloc (xrefl _) _) _)).below hb5.out, hsbx.below hb5.out, [], ((hmap.below (xalloc (xrefl _) _)).below hb5.out), fun y => by simp⟩
        obtain ⟨lo, hlo⟩ : ∃ lo, (((w4.alloc (.cells #[.int .i64 0] 3)).alloc (mapI .i64 [])).alloc (.cells #[.map (some (w4.heap.size + 1))] 52)).heap.size = lo := ⟨_, rfl⟩
        have hlo3 : lo = w4.heap.size + 1 + 1 + 1 := by rw [← hlo, World.size_alloc, e2]
        have hL' : LnAt bs 0 b5 b3 gb lo w5 := by have := hL.out; rw [← hlo]; exact this
        have hk9 : wr.heap.size ≤ w4.heap.size := hb4.out.size
        replace hlo := Lib.hid hlo
        replace hlo3 := Lib.hid hlo3
        replace hL' := Lib.hid hL'
        replace hW5 := Lib.hid hW5
        clear hL hb5 hbox hmap hsbx e1 e2 hnil
        refine wp_mid 2 (fun a a' W' => ∃ D, a' = { a with defers := { target := .collected D, args := #[] } :: a.defers } ∧ w5.heap.size ≤ D ∧ W'.heap[D]? = some (.deferred (some [])) ∧ Below w4.heap.size w4 W' ∧ ∃ S, HoL w4.heap.size (w4.heap.size + 1) (w4.heap.size + 1 + 1) R R.length S W') ?range ?rest (fun _ _ h => h)
        case range =>
          refine (wpIn_wide (n := 0)).1 ?_
          refine wp_rangeL (w0 := w4) (gf := 63) (lb := #[.pointer (some ⟨b5, 0, none⟩), .pointer (some ⟨b3, 0, none⟩)]) rfl (enters_of Tryz.func63 (by kernel_rfl) rfl) (encs := fun x : Nat => #[.int .i64 x]) (Rd := WkRd lo w5) R
            (fun k hk => hk.2) hW5.out (fun W hW => by have := line_seq bs cs.length g hl200 0 b5 b3 gb lo w5 W hL'.out hW; rwa [hRR.out] at this) (fun x => rfl)
            (fun k S W => HoL w4.heap.size (w4.heap.size + 1) (w4.heap.size + 1 + 1) R k S W) (fun _ _ _ _ => False) (fun k S => HoL.fac) (fun k c S => ⟨fun _ _ h _ _ => h.elim, fun _ h => h.elim⟩) (fun j => j = w4.heap.size ∨ j = w4.heap.size + 1 ∨ j = w4.heap.size + 1 + 1)
            (fun j hj => ⟨by omega, fun hr => by have := hr.1; have := hlo3.out; omega⟩) hSt0 ?round ?done ?stop
          case round =>
            intro l0 k hk W
            have hyR : Hid (∀ (_ : B.exit = true), R[k] ∈ K) := Lib.hid fun hx => hall.out hx _ (List.getElem_mem hk)
            have hnew : Hid (R[k] ∉ R.take k) := Lib.hid fun h => by
              obtain ⟨j, hj, e⟩ := List.mem_iff_getElem.1 h
              rw [List.length_take] at hj
              rw [List.getElem_take] at e
              have := (List.getElem_inj (h₀ := by omega) (h₁ := hk) lf1.out).1 e
              omega
            have htk : Hid (R.take (k + 1) = R.take k ++ [R[k]]) := Lib.hid (List.take_succ_eq_append_getElem hk)
            have hkI : (k : Int) < 1000 := by have := lf3.out; omega
            dsimp only
            generalize R[k] = y at *
            simp only [List.zip_toArray, List.zip_cons_cons, List.zip_nil_right, List.size_toArray, List.foldl_toArray', List.foldl_cons, List.foldl_nil, List.setIfInBounds_toArray, List.set_cons_succ, List.set_cons_zero]
            gi_wp2
            refine ⟨trivial, fun S W2 hb2 hzz _ hSo hS2 => ?_⟩
            obtain ⟨h1, h2, h3, h4, hbn, hbs2, K2, hO2, hK2⟩ := hS2
            have hyn : y ∉ K2 := fun h => hnew.out ((hK2 y).1 h)
            have hlk1 := hO2.not hyn
            have hwr2 : Below wr.heap.size wr W2 := (xtrans hb4.out hb2)
            have cX := (hBx.out.below hwr2).cell 3 (by simp)
            simp only [List.getElem_cons_succ, List.getElem_cons_zero] at cX
            have cT := (hTr.out.below hwr2).cell
            have cn := hbn.cell
            have cnf := hbn.free
            have cs2 := hbs2.cell
            have hOt := hBo.out.below hwr2
            obtain ⟨l2, hl2, hl3, hl4⟩ := hO2
            replace hl2 := Lib.hid hl2
            replace hl3 := Lib.hid hl3
            replace hl4 := Lib.hid hl4
            replace hbn := Lib.hid hbn
            replace hbs2 := Lib.hid hbs2
            replace h1 := Lib.hid h1
            replace hK2 := Lib.hid hK2
            replace hSo := Lib.hid hSo
            replace hOt := Lib.hid hOt
            have hkw : IntKind.i64.wrap ((k : Int) + 1) = (k : Int) + 1 := by simp [IntKind.wrap, IntKind.bits, IntKind.signed]; omega
            clear hb2 hzz hyn hwr2
            cases hx : B.exit with
            | true =>
              have hlk2 := hOt.out.yes (hyR.out hx)
              rw [hx] at cX
              gi_wp2_with (refine wpListIn_putI rfl _ 3 3 .i64 _ _ _ rfl (by kernel_rfl) (by kernel_rfl) (w4.heap.size + 1) (y : Int) (.int .i64 1) l2 rfl rfl rfl hl2.out ?_; intro w8 hm8 ho8; have hn8 := Lib.hid (OneAt.upd hl3.out hl4.out y hm8); have hbn8 := hbn.out.only ho8 (by omega); have hbs8 := Lib.hid (hbs2.out.only ho8 (by omega)); have cn8 := hbn8.cell; have cf8 := hbn8.free; replace hbn8 := Lib.hid hbn8; replace ho8 := Lib.hid ho8; clear hm8)
              have hon9 := (Only.refl (fun j => j = w4.heap.size) w8).setCell ⟨w4.heap.size, 0, none⟩ (.int .i64 ((k : Int) + 1)) rfl
              have hsz9 : (w8.setCell ⟨w4.heap.size, 0, none⟩ (.int .i64 ((k : Int) + 1))).heap.size = w8.heap.size := by simp [World.setCell]
              have hs28 := ho8.out.size
              exact ⟨(ho8.out.mono (fun _ _ e => by rw [e]; exact h3)).setCell ⟨w4.heap.size, 0, none⟩ _ h2, S, fun j hj => .inl hj, (fun j hj => by rw [hsz9]; exact Nat.lt_of_lt_of_le (h1.out j hj) hs28), h2, h3, h4, hbn8.out.set _, hbs8.out.only hon9 (by omega), addK K2 y, hn8.out.only hon9 (by omega), fun z => by rw [mem_addK, hK2.out z, htk.out, List.mem_append, List.mem_singleton]; exact or_comm⟩
            | false =>
              rw [hx] at cX
              gi_wp2_with (refine wpListIn_putI rfl _ 3 3 .i64 _ _ _ rfl (by kernel_rfl) (by kernel_rfl) (w4.heap.size + 1) (y : Int) (.int .i64 1) l2 rfl rfl rfl hl2.out ?_; intro w8 hm8 ho8; have hn8 := Lib.hid (OneAt.upd hl3.out hl4.out y hm8); have hbn8 := hbn.out.only ho8 (by omega); have hbs8 := Lib.hid (hbs2.out.only ho8 (by omega)); have cn8 := hbn8.cell; have cf8 := hbn8.free; replace hbn8 := Lib.hid hbn8; replace ho8 := Lib.hid ho8; clear hm8)
              have hon9 := (Only.refl (fun j => j = w4.heap.size) w8).setCell ⟨w4.heap.size, 0, none⟩ (.int .i64 ((k : Int) + 1)) rfl
              have hsz9 : (w8.setCell ⟨w4.heap.size, 0, none⟩ (.int .i64 ((k : Int) + 1))).heap.size = w8.heap.size := by simp [World.setCell]
              have hs28 := ho8.out.size
              exact ⟨(ho8.out.mono (fun _ _ e => by rw [e]; exact h3)).setCell ⟨w4.heap.size, 0, none⟩ _ h2, S, fun j hj => .inl hj, (fun j hj => by rw [hsz9]; exact Nat.lt_of_lt_of_le (h1.out j hj) hs28), h2, h3, h4, hbn8.out.set _, hbs8.out.only hon9 (by omega), addK K2 y, hn8.out.only hon9 (by omega), fun z => by rw [mem_addK, hK2.out z, htk.out, List.mem_append, List.mem_singleton]; exact or_comm⟩
          case done =>
            intro D S W hD hSD hb _ hSw hS2 hK
            exact ⟨.inl rfl, D, rfl, hD, hK, hb, S, hS2⟩
          case stop =>
            intro D k c S W hkl hD hSD hb _ hSw hS2 hK
            exact hS2.elim
        case rest =>
          rintro _ W6 ⟨D, rfl, hDl, hKD, hb6, S, hS6⟩
          have hs6 := hb6.size
          have hWw := xtrans hwr.out (xtrans hb4.out hb6)
          obtain ⟨h1, h2, h3, h4, hbn, hbs2, K2, hO2, hK2⟩ := hS6
          rw [List.take_length] at hK2
          rw [lf3.out] at hbn
          have hM6 := Lib.hid (hM4.out.below hb6)
          have hbr6 := brr.out.below (xtrans hb4.out hb6)
          have hDw : w.heap.size < D := by have := hWw.size; have := hwr.out.size; have := brr.out.lt; have := hW5.out.size; omega
          replace hbr6 := Lib.hid hbr6
          replace hWw := Lib.hid hWw
          replace hO2 := Lib.hid hO2
          replace hK2 := Lib.hid hK2
          replace hbn := Lib.hid hbn
          replace hbs2 := Lib.hid hbs2
          replace hKD := Lib.hid hKD
          dsimp only
          clear h1 h2 h3 h4 hBx hBo hall hTr hSt0 hL' hlo hlo3 hW5 hb6 hM4 hb4 brr
          go_wp2
          go_loopw [14] (fun iv wx => ∃ i : Nat, iv = .int .i64 i ∧ i ≤ M.length ∧ Hid (Below W6.heap.size W6 wx)) (fun iv _ => M.length - (intOf iv).toNat)
          case atStart => exact ⟨0, rfl, by omega, Lib.hid (xrefl _)⟩
          case round =>
            obtain ⟨i, rfl, hi, hbx⟩ := hrel
            by_cases hlt : i < M.length
            · have hltI : (i : Int) < M.length := by omega
              have hyM : M[i] ∈ K2 := (hK2.out _).2 ((lf2.out _).2 (List.getElem_mem hlt))
              have hlk : Hid (∀ W, Below wr.heap.size wr W → (Instr.lookup 52 (.map (some (w4.heap.size + 1))) (.int .i64 ((M[i] : Nat) : Int)) false).run Tryz.prog W = .ok (.int .i64 1) W) := Lib.hid fun W hW => ((hO2.out.below hbx.out).below hW).yes hyM
              have cs6 := (hbs2.out.below hbx.out).cell
              obtain ⟨nb6, no6, rfl, hcn6⟩ := (hM6.out.below hbx.out).get hlt
              clear hyM
              generalize M[i] = y at *
              go_wp2
              refine' wp_region_growL 7 [fixd _, fixd _, fixd _, fixd _, fixd _, fixd _, fixd _] (by kernel_rfl) (by kernel_rfl) ?_
              rotate_left 7
              simp only [List.take_succ_cons, List.take_zero, List.drop_succ_cons, List.drop_zero]
              try simp only [Act.put, List.setIfInBounds_toArray, List.set_cons_succ, List.set_cons_zero, List.nil_append, List.cons_append]
              refine' wpGrowV_fix _ rfl rfl (fun W hb _ => by have c := cbel hb cs6; go_simp; first | exact xrefl W | exact ⟨rfl, xrefl W⟩) ?_
              try simp only [Act.put, List.setIfInBounds_toArray, List.set_cons_succ, List.set_cons_zero, List.nil_append, List.cons_append]
              refine' wpGrowV_fix _ rfl rfl (fun W hb _ => by go_simp; first | exact xrefl W | exact ⟨rfl, xrefl W⟩) ?_
              try simp only [Act.put, List.setIfInBounds_toArray, List.set_cons_succ, List.set_cons_zero, List.nil_append, List.cons_append]
              refine' wpGrowV_fix _ rfl rfl (fun W hb _ => by go_simp; first | exact xrefl W | exact ⟨rfl, xrefl W⟩) ?_
              try simp only [Act.put, List.setIfInBounds_toArray, List.set_cons_succ, List.set_cons_zero, List.nil_append, List.cons_append]
              refine' wpGrowV_fix _ rfl rfl (fun W hb _ => by go_simp; first | exact xrefl W | exact ⟨rfl, xrefl W⟩) ?_
              try simp only [Act.put, List.setIfInBounds_toArray, List.set_cons_succ, List.set_cons_zero, List.nil_append, List.cons_append]
              refine' wpGrowV_fix _ rfl rfl (fun W hb _ => by have c := cbel hb hcn6; go_simp; first | exact xrefl W | exact ⟨rfl, xrefl W⟩) ?_
              try simp only [Act.put, List.setIfInBounds_toArray, List.set_cons_succ, List.set_cons_zero, List.nil_append, List.cons_append]
              refine' wpGrowV_fix _ rfl rfl (fun W hb _ => by have c := hlk.out W hb; go_simp; first | exact xrefl W | exact ⟨rfl, xrefl W⟩) ?_
              try simp only [Act.put, List.setIfInBounds_toArray, List.set_cons_succ, List.set_cons_zero, List.nil_append, List.cons_append]
              refine' wpGrowV_fix _ rfl rfl (fun W hb _ => by go_simp; first | exact xrefl W | exact ⟨rfl, xrefl W⟩) ?_
              try simp only [Act.put, List.setIfInBounds_toArray, List.set_cons_succ, List.set_cons_zero, List.nil_append, List.cons_append]
              refine wpGrowV_nil fun W7 hb7 _ => ?_
              replace hbx := Lib.hid (xtrans hbx.out hb7)
              clear hlk cs6 hcn6 hb7
              try simp only [List.length_cons, List.length_nil, Nat.zero_add]
              go_wp2
              exact ⟨⟨i + 1, by go_num, by omega, hbx⟩, by simp [intOf]; omega⟩
            · obtain rfl : i = M.length := by omega
              have cn6 := (hbn.out.below hbx.out).cell
              have hbr7 := Lib.hid (hbr6.out.below hbx.out)
              have hD7 := Lib.hid ((hbx.out.block D (Array.getElem?_eq_some_iff.1 hKD.out).1).trans hKD.out)
              replace hbx := Lib.hid (xtrans hWw.out hbx.out)
              clear hlt hi
              go_wp2_with (go_at_call 25; refine (works12_any _).mono ?_; rintro e W8 ⟨rfl, hb8⟩; have hbr8 := hbr7.out.below hb8; have cr := hbr8.cell; have fr := hbr8.free; have hD8 := Lib.hid ((hb8.block D (Array.getElem?_eq_some_iff.1 hD7.out).1).trans hD7.out); replace hbr8 := Lib.hid hbr8; replace hb8 := Lib.hid (xtrans hbx.out hb8))
              have hbE : Below w.heap.size w (W8.setCell ⟨w.heap.size, 0, none⟩ (.bool true)) := hb8.out.setCell (by simp only; omega) _
              have hE1 : (W8.setCell ⟨w.heap.size, 0, none⟩ (.bool true)).heap[D]? = some (.deferred (some [])) := (Below.heap_setCell _ ⟨w.heap.size, 0, none⟩ _ D (by simp only; omega)).trans hD8.out
              have hE3 := hbr8.out.set (.bool true)
              generalize W8.setCell ⟨w.heap.size, 0, none⟩ (.bool true) = WE at hbE hE1 hE3 ⊢
              have ho := (Only.refl (fun k => k = D) WE).putObj D (.deferred none) rfl
              refine ⟨by simp, .inl ⟨_, _, rfl, run_takeDeferred hE1, ?_⟩⟩
              exact ⟨_, results_bool rfl _ _ w.heap.size (.bool true) rfl (hE3.only ho (by omega)).cell, rfl, ho.below hbE hbE.size (by rintro i rfl; omega)⟩
end Go.Proofs.YtijkdabmegbcjaaGreatDoor
