/- Texts of this claim, merged; no condition. -/
import Derived.Test.YtijkdabmegbcjaaGreatDoorQ38
set_option linter.all false
namespace Go.Proofs.YtijkdabmegbcjaaGreatDoor
open Go.RowKit Go.Shelf

theorem refInts_same (l : List Nat) (a a' : Option Addr) (c c' : Nat) (w : World) (h : IntsAt w a c l) (h' : IntsAt w a' c' l) (hl : l.length ≤ 1000) :
    Calls Tryz.prog 22 #[.slice a l.length c, .slice a' l.length c'] w fun e w' => e = .returned (.bool true) ∧ ∃ k, w' = w.drewN k := by
  have := refInts_any l l a a' c c' w h h' hl hl
  rw [decide_eq_true (rfl : l = l)] at this
  exact this
set_option maxRecDepth 100000 in
set_option maxHeartbeats 4000000 in
theorem meetBehinds_walk (a : Option Addr) (c : Nat) (zs : List Int) (n : Int) (w : World) (hl : zs.length ≤ c ∧ c ≤ 9223372036854775807) (hr : RowAt .u8 w a zs) (ha : a = none → c = 0) (hw : ∀ z ∈ zs, (Lit.int .u8 z).wf = true) (hn : -9223372036854775808 ≤ n ∧ n ≤ 9223372036854775807) (_ : TabF w) :
    Calls Tryz.prog 6 #[.slice a zs.length c, .int .i64 n] w (Yes w) := by
  clear hn
  by_cases h : (zs.length : Int) > 80
  · clear hr ha hw hl
    go_enter Tryz.func6, Tryz.ntmps6
    go_wp2_with (go_at_call 25; refine (works12_any _).mono ?_; rintro e w9 ⟨rfl, b9⟩)
    go_ret
    exact ⟨rfl, b9⟩
  · obtain ⟨cs, rfl, hC⟩ := code_of hl hr ha hw (by omega)
    rw [natI_len] at h ⊢
    have hl2 : cs.length ≤ 100 := by omega
    have h1 := Lib.hid (fun W (hW : Below w.heap.size w W) => meetM_any cs n a c W (hC.below hW) hl2)
    have h2 := Lib.hid (fun W (hW : Below w.heap.size w W) => ref12Meet_any cs n a c W (hC.below hW) hl2)
    have h3 := Lib.hid (fun W (hW : Below w.heap.size w W) => endsM_any cs n a c W (hC.below hW) hl2)
    have h4 := Lib.hid (fun W (hW : Below w.heap.size w W) => refEnds12_any cs n a c W (hC.below hW) hl2)
    have h5 := Lib.hid (fun W (hW : Below w.heap.size w W) => behindM_any cs n a c W (hC.below hW) hl2)
    have h6 := Lib.hid (fun W (hW : Below w.heap.size w W) => ref12Behind_any cs n a c W (hC.below hW) hl2)
    have hM : (behindZ (blksN cs) cs.length n).length ≤ 1000 := by have := behindZ_len (bs := blksN cs) (D := cs.length) n; have := blksN_len cs; omega
    unfold atV at *
    generalize ((meetZ (blksN cs) cs.length n).getD 0 : Nat) = av at *
    generalize (meetZ (blksN cs) cs.length n).isSome = ab at *
    generalize exitsZ (blksN cs) cs.length n (-1) = eb at *
    generalize behindZ (blksN cs) cs.length n = M at *
    clear hr ha hw hl hC
    go_enter Tryz.func6, Tryz.ntmps6
    go_wp2_with (first
      | (go_at_call 26; refine (h1.out _ (xrefl _)).mono ?_; rintro e w1 ⟨rfl, hw1⟩; replace hw1 := Lib.hid hw1)
      | (go_at_call 27; refine (h2.out _ hw1.out).mono ?_; rintro e w2 ⟨rfl, hw2⟩; replace hw2 := Lib.hid (xtrans hw1.out hw2))
      | (go_at_call 28; refine (h3.out _ hw2.out).mono ?_; rintro e w3 ⟨rfl, hw3⟩; replace hw3 := Lib.hid (xtrans hw2.out hw3))
      | (go_at_call 29; refine (h4.out _ hw3.out).mono ?_; rintro e w4 ⟨rfl, hw4⟩; replace hw4 := Lib.hid (xtrans hw3.out hw4))
      | (go_at_call 30; refine (h5.out _ hw4.out).mono ?_; rintro e w5 ⟨⟨v5, rfl, hO5⟩, hw5⟩; obtain ⟨a5, c5, rfl, hI5, -⟩ := hO5.at; replace hI5 := Lib.hid hI5; replace hw5 := Lib.hid (xtrans hw4.out hw5); clear hO5)
      | (go_at_call 31; refine (h6.out _ hw5.out).mono ?_; rintro e w6 ⟨⟨v6, rfl, hO6⟩, hw6⟩; obtain ⟨a6, c6, rfl, hI6, -⟩ := hO6.at; have hii := Lib.hid (refInts_same M _ _ _ _ _ (hI5.out.below hw6) hI6 hM); replace hw6 := Lib.hid (xtrans hw5.out hw6); clear hO6 hI6)
      | (go_at_call 22; refine hii.out.mono ?_; rintro e w7 ⟨rfl, kk, hk7⟩; have hw7 : Hid (Below w.heap.size w w7) := Lib.hid (by rw [hk7]; exact xdrewN hw6.out kk); clear hk7)
      | (go_at_call 25; refine (works12_any _).mono ?_; rintro e w9 ⟨rfl, b9⟩))
    go_ret
    exact ⟨rfl, xtrans hw7.out b9⟩
end Go.Proofs.YtijkdabmegbcjaaGreatDoor
namespace Go.Proofs.YtijkdabmegbcjaaGreatDoor
open Go.RowKit Go.Shelf

set_option maxRecDepth 100000 in
set_option maxHeartbeats 4000000 in
theorem meetAll_walk (a : Option Addr) (c : Nat) (zs : List Int) (w : World) (hl : zs.length ≤ c ∧ c ≤ 9223372036854775807) (hr : RowAt .u8 w a zs) (ha : a = none → c = 0) (hw : ∀ z ∈ zs, (Lit.int .u8 z).wf = true) (_ : TabF w) :
    Calls Tryz.prog 9 #[.slice a zs.length c] w (Yes w) := by
  by_cases h : (zs.length : Int) > 80
  · clear hr ha hw hl
    go_enter Tryz.func9, Tryz.ntmps9
    go_wp2_with (go_at_call 25; refine (works12_any _).mono ?_; rintro e w9 ⟨rfl, b9⟩)
    go_ret
    exact ⟨rfl, b9⟩
  · obtain ⟨cs, rfl, hC⟩ := code_of hl hr ha hw (by omega)
    rw [natI_len] at h ⊢
    have hl2 : cs.length ≤ 100 := by omega
    have hbl := blksN_len cs
    have h1 := Lib.hid (meets_any cs a c w hC hl2)
    have h2 := Lib.hid (fun W (hW : Below w.heap.size w W) => refBlocks_any cs a c W (hC.below hW))
    have h3 := Lib.hid (fun W (hW : Below w.heap.size w W) (k : Nat) => ref12Meet_any cs (k : Int) a c W (hC.below hW) hl2)
    have hzi : ∀ w, (zeroValue 3).run Tryz.prog w = .ok (.int .i64 0) w := fun _ => rfl
    generalize blksN cs = bs at *
    generalize cs.length = D at *
    clear hr ha hw hl hC
    go_enter Tryz.func9, Tryz.ntmps9
    go_wp2_with (first
      | (go_at_call 35; refine h1.out.mono ?_; rintro e w1 ⟨⟨ob, rfl, hob, hM⟩, hw1⟩; obtain ⟨lm, hm1, hm2, hm3⟩ := hM.ex; replace hm1 := Lib.hid hm1; replace hm3 := Lib.hid hm3; replace hw1 := Lib.hid hw1; clear hM)
      | (go_at_call 15; refine (h2.out _ hw1.out).mono ?_; rintro e w2 ⟨⟨p, q, rfl, hP, -⟩, hw2⟩; have hm4 := Lib.hid ((hw2.block ob (Array.getElem?_eq_some_iff.1 hm1.out).1).trans hm1.out); replace hP := Lib.hid hP; replace hw2 := Lib.hid (xtrans hw1.out hw2)))
    have hobl := (Array.getElem?_eq_some_iff.1 hm4.out).1
    go_loopw [5, 6] (fun nv iv wx => ∃ i n : Nat, iv = .int .i64 i ∧ i ≤ bs.length ∧ nv = .int .i64 n ∧ n ≤ i ∧ Hid (n = ((bs.take i).filterMap (metF bs D)).length) ∧ Hid (Below w2.heap.size w2 wx)) (fun _ iv _ => bs.length - (intOf iv).toNat)
    case atStart => exact ⟨0, 0, rfl, by omega, rfl, Nat.le_refl _, Lib.hid rfl, Lib.hid (xrefl _)⟩
    case round =>
      obtain ⟨i, n, rfl, hi, rfl, hni, hn, hb⟩ := hrel
      have hmr := Lib.hid ((hb.out.block ob hobl).trans hm4.out)
      by_cases hlt : i < bs.length
      · have hltI : (i : Int) < bs.length := by omega
        obtain ⟨b, o, p', q', rfl, hr, -⟩ := (hP.out.below hb.out).elt i hlt
        have hcf : wr.cell? ⟨b, o + i * 4, none⟩ = some (.int .i64 bs[i].first) := by have := hr 0 _ rfl; rwa [Nat.add_zero] at this
        have hcall := h3.out wr (xtrans hw2.out hb.out) bs[i].first
        have hfd := hm3.out bs[i] (List.getElem_mem hlt)
        have htk : Hid (((bs.take (i + 1)).filterMap (metF bs D)).length = ((bs.take i).filterMap (metF bs D)).length + (if (meetN bs D bs[i].first).isSome then 1 else 0)) := Lib.hid (by
          rw [List.take_succ_eq_append_getElem hlt, List.filterMap_append, List.length_append]
          congr 1
          rw [List.filterMap_cons]
          unfold metF
          cases meetN bs D bs[i].first <;> rfl)
        rw [meetZ_nat] at hcall
        generalize bs[i].first = k at *
        replace hcall := Lib.hid hcall
        have hwi : IntKind.i64.wrap ((i : Int) + 1) = (i : Int) + 1 := by simp [IntKind.wrap, IntKind.bits, IntKind.signed]; omega
        have hwn : IntKind.i64.wrap ((n : Int) + 1) = (n : Int) + 1 := by simp [IntKind.wrap, IntKind.bits, IntKind.signed]; omega
        replace hm3 := Lib.hid hm3
        clear hr
        cases hmm : meetN bs D k with
        | none =>
          rw [hmm] at hcall hfd htk
          clear hmm
          go_wp2_with (first
            | (go_at_call 27; refine hcall.out.mono ?_; rintro e w3 ⟨rfl, hb3⟩; unfold atV; have hcf3 := cbel hb3 hcf; have hm5 := Lib.hid ((hb3.block ob (Array.getElem?_eq_some_iff.1 hmr.out).1).trans hmr.out); replace hb3 := Lib.hid (xtrans hb.out hb3))
            | (refine wpList_lookI rfl 52 3 3 .i64 _ _ true rfl (by kernel_rfl) (by kernel_rfl) hzi (k : Int) ob lm rfl rfl hm5.out ?_; rw [hfd]))
          exact ⟨⟨i + 1, n, by go_num, by omega, rfl, by omega, Lib.hid (by rw [htk.out, ← hn.out]; rfl), hb3⟩, by simp [intOf]; omega⟩
        | some m =>
          rw [hmm] at hcall hfd htk
          clear hmm
          go_wp2_with (first
            | (go_at_call 27; refine hcall.out.mono ?_; rintro e w3 ⟨rfl, hb3⟩; unfold atV; have hcf3 := cbel hb3 hcf; have hm5 := Lib.hid ((hb3.block ob (Array.getElem?_eq_some_iff.1 hmr.out).1).trans hmr.out); replace hb3 := Lib.hid (xtrans hb.out hb3))
            | (refine wpList_lookI rfl 52 3 3 .i64 _ _ true rfl (by kernel_rfl) (by kernel_rfl) hzi (k : Int) ob lm rfl rfl hm5.out ?_; rw [hfd]))
          exact ⟨⟨i + 1, n + 1, by go_num, by omega, by go_num, by omega, Lib.hid (by rw [htk.out, ← hn.out]; rfl), hb3⟩, by simp [intOf]; omega⟩
      · obtain rfl : i = bs.length := by omega
        rw [List.take_length] at hn
        have hnl : n = lm.length := by rw [hm2]; exact hn.out
        subst hnl
        clear hlt hn hm2
        go_wp2_with (first
          | (refine wpList_lenI rfl _ 52 3 3 .i64 rfl (by kernel_rfl) ob lm rfl hmr.out ?_)
          | (go_at_call 25; refine (works12_any _).mono ?_; rintro e w9 ⟨rfl, b9⟩))
        go_ret
        exact ⟨rfl, xtrans (xtrans hw2.out hb.out) b9⟩
end Go.Proofs.YtijkdabmegbcjaaGreatDoor
namespace Go.Proofs.YtijkdabmegbcjaaGreatDoor
open Go.RowKit Go.Shelf
attribute [local go_sem] Oper.semAt_some
attribute [local go_sem 20000] run_max_big run_min_small

/-- The number of rounds, in a box. -/
def NbL (k9 : Nat) (Pk : Prop) (v : Int) (S : Nat → Prop) (W : World) : Prop := Pk ∧ (∀ j, S j → j < W.heap.size) ∧ S k9 ∧ Box W k9 (.int .i64 v) 3
theorem NbL.fac {k9 : Nat} {Pk : Prop} {v : Int} {S : Nat → Prop} : Fac S (NbL k9 Pk v S) :=
  ⟨fun W W' ⟨h0, h1, h2, h3⟩ hz hs => ⟨h0, fun j hj => Nat.lt_of_lt_of_le (h1 j hj) hz, h2, (hs _ h2 (h1 _ h2)).trans h3⟩, fun W h => h.2.1⟩
theorem NbL.fac' {k9 : Nat} {R Pk : Prop} {v : Int} {S : Nat → Prop} : Fac S (fun W => R ∧ NbL k9 Pk v S W) :=
  ⟨fun W W' h hz hs => ⟨h.1, NbL.fac.on W W' h.2 hz hs⟩, fun W h => h.2.2.1⟩
/-- What the law's turns find in memory. -/
structure LwS (w : World) (cs : List Nat) (n x : Int) (p5 : Nat) (p : Option Addr) (q : Nat) (w4 W : World) : Prop where
  bm : Box W w.heap.size (.int .i64 x) 3
  br : Box W (w.heap.size + 1) (.bool false) 4
  bp : Box W p5 (.slice p (lineZ (blksN cs) cs.length n).length q) 42
  hp : IntsAt W p q (lineZ (blksN cs) cs.length n)
  h4 : Below w4.heap.size w4 W
  hb : Below w.heap.size w W
theorem LwS.below {w : World} {cs : List Nat} {n x : Int} {p5 : Nat} {p : Option Addr} {q : Nat} {w4 W W' : World} (h : LwS w cs n x p5 p q w4 W) (hb : Below W.heap.size W W') : LwS w cs n x p5 p q w4 W' :=
  ⟨h.bm.below hb, h.br.below hb, h.bp.below hb, h.hp.below hb, xtrans h.h4 hb, xtrans h.hb hb⟩
theorem line_len' {bs : List BlkN} {D : Nat} (g : Graph bs D) (n : Int) : (lineZ bs D n).length ≤ bs.length := by
  unfold lineZ
  split
  · exact line_len g _
  · simp
set_option maxRecDepth 100000 in
set_option maxHeartbeats 8000000 in
theorem meetLines_go (cs : List Nat) (a : Option Addr) (c : Nat) (n x : Int) (w : World) (hC : CodeAt w a c cs) (hl : cs.length ≤ 80) (hx1 : -9223372036854775808 ≤ x) (hx2 : x ≤ 9223372036854775807) :
    Calls Tryz.prog 7 #[.slice a cs.length c, .int .i64 n, .int .i64 x] w (Yes w) := by
  have hlb : ¬ ((cs.length : Int) > 80) := by omega
  have g := graph_code cs
  have hbl := blksN_len cs
  have hwl := line_len' g n
  have hA : Below w.heap.size w ((w.alloc (.cells #[.int .i64 x] 3)).alloc (.cells #[.bool false] 4)) := xalloc (xalloc (xrefl w) _) _
  have bm1 : Hid (Box ((w.alloc (.cells #[.int .i64 x] 3)).alloc (.cells #[.bool false] 4)) w.heap.size (.int .i64 x) 3) := Lib.hid ((Box.new w _ _).below (xalloc (xrefl _) _))
  have br1 : Hid (Box ((w.alloc (.cells #[.int .i64 x] 3)).alloc (.cells #[.bool false] 4)) (w.heap.size + 1) (.bool false) 4) := Lib.hid (by have := Box.new (w.alloc (.cells #[.int .i64 x] 3)) (.bool false) 4; rwa [World.size_alloc] at this)
  have sA : ((w.alloc (.cells #[.int .i64 x] 3)).alloc (.cells #[.bool false] 4)).heap.size = w.heap.size + 2 := by simp
  have hrw := Lib.hid (ref12Line_any cs n a c _ (hC.below hA) (by omega))
  have hfw := Lib.hid (fun W (h : Below w.heap.size w W) => line_any cs n a c W (hC.below h) (by omega))
  have hnil := fun m k W => run_eql_fn_nil (P := Tryz.prog) 48 (by kernel_rfl) (.func 63) #[] #[.pointer (some ⟨m, 0, none⟩), .pointer (some ⟨k, 0, none⟩)] W
  replace hA := Lib.hid hA
  replace sA := Lib.hid sA
  clear hC
  refine (callsIn_wide (n := 0)).1 ?_
  refine callsIn_of_wp_marks Tryz.func7 rfl trivial ?_ rfl
  simp only [Tryz.ntmps7, List.size_toArray, List.length_cons, List.length_nil, Nat.reduceAdd, Nat.reduceSub, Array.replicate_succ, Array.replicate_zero, List.push_toArray, List.append_toArray, List.nil_append, List.cons_append]
  refine wpIn_wide.2 ?_
  go_wp2_with (first
    | (go_at_call 32; refine hrw.out.mono ?_; rintro e w1 ⟨⟨v1, rfl, hv1⟩, hb1⟩; obtain ⟨p, q, rfl, hP, -⟩ := hv1.at; have hB1 := Lib.hid (xtrans hA.out hb1); have hB2 := Lib.hid (xalloc hB1.out (.cells #[.slice p (lineZ (blksN cs) cs.length n).length q] 42)); replace hP := Lib.hid hP; replace hb1 := Lib.hid hb1; clear hv1)
    | (go_at_call 33; refine (hfw.out _ hB2.out).mono ?_; rintro e w4 ⟨⟨mbx, nbx, gb, rfl, hW⟩, hb4⟩; have hB4 := Lib.hid (xtrans hB2.out hb4); replace hW := Lib.hid hW; replace hb4 := Lib.hid hb4))
  have hW4 := hW.out
  have c4 : Below w4.heap.size w4 (w4.alloc (.cells #[.int .i64 0] 3)) := xalloc (xrefl w4) _
  have c1 : Below w1.heap.size w1 (w4.alloc (.cells #[.int .i64 0] 3)) := xtrans (xalloc (xrefl w1) (.cells #[.slice p (lineZ (blksN cs) cs.length n).length q] 42)) (xtrans hb4.out c4)
  have bp1 : Box (w4.alloc (.cells #[.int .i64 0] 3)) w1.heap.size (.slice p (lineZ (blksN cs) cs.length n).length q) 42 := (Box.new w1 _ _).below (xtrans hb4.out c4)
  have hS : LwS w cs n x w1.heap.size p q w4 (w4.alloc (.cells #[.int .i64 0] 3)) := ⟨(bm1.out.below hb1.out).below c1, (br1.out.below hb1.out).below c1, bp1, hP.out.below c1, c4, xtrans hB1.out c1⟩
  have bt : Box (w4.alloc (.cells #[.int .i64 0] 3)) w4.heap.size (.int .i64 ((0 : Nat) : Int)) 3 := Box.new w4 _ _
  have l1 : w.heap.size + 2 ≤ w1.heap.size := by rw [← sA.out]; exact hb1.out.size
  have l4 : w1.heap.size < w4.heap.size := by have := hb4.out.size; rw [World.size_alloc] at this; omega
  have l7 : w4.heap.size ≤ w4.heap.size := Nat.le_refl _
  have l8 : w4.heap.size < (w4.alloc (.cells #[.int .i64 0] 3)).heap.size := by rw [World.size_alloc]; omega
  obtain ⟨lo, hlo⟩ : ∃ lo, (w1.alloc (.cells #[.slice p (lineZ (blksN cs) cs.length n).length q] 42)).heap.size = lo := ⟨_, rfl⟩
  rw [hlo] at hW4
  clear hlo
  generalize w1.heap.size = p5 at *
  obtain ⟨k8, hk8⟩ : ∃ k8, w4.heap.size = k8 := ⟨_, rfl⟩
  rw [hk8] at bt l8
  simp only [hk8]
  generalize w4.alloc (.cells #[.int .i64 0] 3) = w8 at *
  have hk8' := Nat.le_of_eq hk8
  replace hk8 := Lib.hid hk8
  clear c4 c1 bp1 hP hW hb1 hb4 hB1 hB2 hB4 hA sA bm1 br1 hfw hrw hnil
  replace hW4 := Lib.hid hW4
  refine wp_loop_rounds 3 ?_
  rw [rounds_succ]
  have ct := bt.cell
  replace hS := Lib.hid hS
  replace bt := Lib.hid bt
  go_wp2
  have hB9 := xalloc (xrefl w8) (.cells #[.int .i64 0] 3)
  have hn9 : Box (w8.alloc (.cells #[.int .i64 0] 3)) w8.heap.size (.int .i64 ((0 : Nat) : Int)) 3 := Box.new w8 _ _
  have s9 : w8.heap.size < (w8.alloc (.cells #[.int .i64 0] 3)).heap.size := by rw [World.size_alloc]; omega
  obtain ⟨v, hv⟩ : ∃ v, w8.alloc (.cells #[.int .i64 0] 3) = v := ⟨_, rfl⟩
  rw [hv] at hB9 hn9 s9 ⊢
  have l9 := hS.out.h4.size
  have lk8 := bt.out.lt
  refine wp_mid 2 (fun a a' W' => ∃ D, a' = { a with defers := { target := .collected D, args := #[] } :: a.defers } ∧ ∃ m : Nat, (m : Int) = smallF ((lineZ (blksN cs) cs.length n).length : Int) (bigF 1 x) ∧ Below w8.heap.size w8 W' ∧ Box W' w8.heap.size (.int .i64 (m : Int)) 3 ∧ W'.heap[D]? = some (.deferred (some [])) ∧ v.heap.size ≤ D) ?range ?rest (fun _ _ h => h)
  case range =>
    refine (wpIn_wide (n := 0)).1 ?_
    refine wp_rangeL (w0 := w8) (gf := 63) (lb := #[.pointer (some ⟨mbx, 0, none⟩), .pointer (some ⟨nbx, 0, none⟩)]) rfl (enters_of Tryz.func63 (by kernel_rfl) rfl) (encs := fun x : Nat => #[.int .i64 x]) (Rd := WkRd lo w4) (lineZ (blksN cs) cs.length n)
      (fun k hk => by have := hk.2; omega) hB9 (fun W hW => line_seq (blksN cs) cs.length g (by omega) n mbx nbx gb lo w4 W hW4.out (xtrans (xtrans hS.out.h4 hB9) hW)) (fun x => rfl)
      (fun k S W => NbL w8.heap.size (k = 0 ∨ (k : Int) < x) (k : Int) S W) (fun k c S W => (c = .exit 2 ∧ x ≤ ((k + 1 : Nat) : Int)) ∧ NbL w8.heap.size (k = 0 ∨ (k : Int) < x) ((k + 1 : Nat) : Int) S W) (fun k S => NbL.fac) (fun k c S => NbL.fac') (fun j => j = w8.heap.size)
      (fun j hj => ⟨by omega, fun hr => by have := hr.2; omega⟩) ⟨.inl rfl, by rintro j rfl; omega, rfl, hn9⟩ ?round ?done ?stop
    case round =>
      intro l0 k hk W
      have hst := Lib.hid (fun (W : World) (h : IntsAt W p q (lineZ (blksN cs) cs.length n)) => h.get hk)
      have hkI : (k : Int) < (lineZ (blksN cs) cs.length n).length := by omega
      have hkN : ¬ (lineZ (blksN cs) cs.length n).length ≤ k := by omega
      dsimp only
      generalize (lineZ (blksN cs) cs.length n)[k] = y at *
      simp only [List.zip_toArray, List.zip_cons_cons, List.zip_nil_right, List.size_toArray, List.foldl_toArray', List.foldl_cons, List.foldl_nil, List.setIfInBounds_toArray, List.set_cons_succ, List.set_cons_zero]
      gi_wp2
      refine ⟨trivial, fun S W2 hb2 hzz _ hSo hS2 => ?_⟩
      obtain ⟨hpk, h1, h2, hbn⟩ := hS2
      have hF2 := hS.out.below hb2
      have cn := hbn.cell
      have cf := hbn.free
      have cp := hF2.bp.cell
      have cm := hF2.bm.cell
      have ct2 := (bt.out.below hb2).cell
      have ln : (lineZ (blksN cs) cs.length n).length ≤ 41000 := by omega
      obtain ⟨b, o, rfl, c0⟩ := hst.out W2 hF2.hp
      replace hF2 := Lib.hid hF2
      replace hbn := Lib.hid hbn
      replace hSo := Lib.hid hSo
      replace h1 := Lib.hid h1
      clear hb2 ct hst
      generalize (lineZ (blksN cs) cs.length n).length = L at *
      generalize w8.heap.size = k9 at *
      by_cases hxk : x ≤ (k : Int) + 1
      · gi_wp2
        exact ⟨(Only.refl S W2).setCell ⟨k9, 0, none⟩ _ h2, S, fun j hj => .inl hj, ⟨rfl, by omega⟩, hpk, (fun j hj => by have := h1.out j hj; simpa [World.setCell] using this), h2, hbn.out.set _⟩
      · gi_wp2
        exact ⟨(Only.refl S W2).setCell ⟨k9, 0, none⟩ _ h2, S, fun j hj => .inl hj, .inr (by omega), (fun j hj => by have := h1.out j hj; simpa [World.setCell] using this), h2, hbn.out.set _⟩
    case done =>
      intro D S W hD hSD hb _ hSw hS2 hK
      obtain ⟨hpk, h1, h2, hbn⟩ := hS2
      exact ⟨.inl rfl, D, rfl, (lineZ (blksN cs) cs.length n).length, by unfold smallF bigF; rcases hpk with h | h <;> (repeat' split) <;> omega, hb, hbn, hK, hD⟩
    case stop =>
      intro D k c S W hkl hD hSD hb _ hSw hS2 hK
      obtain ⟨⟨rfl, hq⟩, hpk, h1, h2, hbn⟩ := hS2
      gi_wp2
      exact ⟨k + 1, by unfold smallF bigF; rcases hpk with h | h <;> (repeat' split) <;> omega, hbn⟩
  case rest =>
    rintro _ W6 ⟨D1, rfl, m, hm, hb6, hn6, hD6, hDl⟩
    have hF6 := hS.out.below hb6
    have ct6 := (bt.out.below hb6).cell
    have cn6 := hn6.cell
    have cp6 := hF6.bp.cell
    have cm6 := hF6.bm.cell
    replace hF6 := Lib.hid hF6
    replace hn6 := Lib.hid hn6
    replace hb6 := Lib.hid hb6
    replace hD6 := Lib.hid hD6
    dsimp only
    go_wp2
    have h67 : Below W6.heap.size W6 (W6.alloc (.cells #[.int .i64 1] 3)) := xalloc (xrefl W6) _
    have bt1 : Box (W6.alloc (.cells #[.int .i64 1] 3)) W6.heap.size (.int .i64 ((1 : Nat) : Int)) 3 := Box.new W6 _ _
    have hS1 := hF6.out.below h67
    have hD1 := (h67.block D1 (Array.getElem?_eq_some_iff.1 hD6.out).1).trans hD6.out
    have l8' : W6.heap.size < (W6.alloc (.cells #[.int .i64 1] 3)).heap.size := by rw [World.size_alloc]; omega
    have l7' : w4.heap.size ≤ W6.heap.size := hF6.out.h4.size
    have hd1w : w.heap.size ≤ D1 := by have := hS.out.hb.size; omega
    generalize hk8b : W6.heap.size = k8b at *
    generalize W6.alloc (.cells #[.int .i64 1] 3) = wB at *
    replace hD1 := Lib.hid hD1
    clear hS bt ct hB9 hn9 s9 hv l9 lk8 hb6 hn6 hD6 hF6 ct6 cn6 cp6 cm6 hm h67 hk8b
    rw [rounds_succ]
    have ct := bt1.cell
    replace hS1 := Lib.hid hS1
    replace bt1 := Lib.hid bt1
    go_wp2
    have hB9 := xalloc (xrefl wB) (.cells #[.int .i64 0] 3)
    have hn9 : Box (wB.alloc (.cells #[.int .i64 0] 3)) wB.heap.size (.int .i64 ((0 : Nat) : Int)) 3 := Box.new wB _ _
    have s9 : wB.heap.size < (wB.alloc (.cells #[.int .i64 0] 3)).heap.size := by rw [World.size_alloc]; omega
    obtain ⟨v, hv⟩ : ∃ v, wB.alloc (.cells #[.int .i64 0] 3) = v := ⟨_, rfl⟩
    rw [hv] at hB9 hn9 s9 ⊢
    have l9 := hS1.out.h4.size
    have lk8 := bt1.out.lt
    refine wp_mid 2 (fun a a' W' => ∃ D, a' = { a with defers := { target := .collected D, args := #[] } :: a.defers } ∧ ∃ m : Nat, m = (lineZ (blksN cs) cs.length n).length ∧ Below wB.heap.size wB W' ∧ Box W' wB.heap.size (.int .i64 (m : Int)) 3 ∧ W'.heap[D]? = some (.deferred (some [])) ∧ v.heap.size ≤ D) ?range ?rest (fun _ _ h => h)
    case range =>
      refine (wpIn_wide (n := 0)).1 ?_
      refine wp_rangeL (w0 := wB) (gf := 63) (lb := #[.pointer (some ⟨mbx, 0, none⟩), .pointer (some ⟨nbx, 0, none⟩)]) rfl (enters_of Tryz.func63 (by kernel_rfl) rfl) (encs := fun x : Nat => #[.int .i64 x]) (Rd := WkRd lo w4) (lineZ (blksN cs) cs.length n)
        (fun k hk => by have := hk.2; omega) hB9 (fun W hW => line_seq (blksN cs) cs.length g (by omega) n mbx nbx gb lo w4 W hW4.out (xtrans (xtrans hS1.out.h4 hB9) hW)) (fun x => rfl)
        (fun k S W => NbL wB.heap.size (True) (k : Int) S W) (fun k c S W => (c = .exit 2 ∧ False) ∧ NbL wB.heap.size (True) ((k + 1 : Nat) : Int) S W) (fun k S => NbL.fac) (fun k c S => NbL.fac') (fun j => j = wB.heap.size)
        (fun j hj => ⟨by omega, fun hr => by have := hr.2; omega⟩) ⟨trivial, by rintro j rfl; omega, rfl, hn9⟩ ?round ?done ?stop
      case round =>
        intro l0 k hk W
        have hst := Lib.hid (fun (W : World) (h : IntsAt W p q (lineZ (blksN cs) cs.length n)) => h.get hk)
        have hkI : (k : Int) < (lineZ (blksN cs) cs.length n).length := by omega
        have hkN : ¬ (lineZ (blksN cs) cs.length n).length ≤ k := by omega
        dsimp only
        generalize (lineZ (blksN cs) cs.length n)[k] = y at *
        simp only [List.zip_toArray, List.zip_cons_cons, List.zip_nil_right, List.size_toArray, List.foldl_toArray', List.foldl_cons, List.foldl_nil, List.setIfInBounds_toArray, List.set_cons_succ, List.set_cons_zero]
        gi_wp2
        refine ⟨trivial, fun S W2 hb2 hzz _ hSo hS2 => ?_⟩
        obtain ⟨hpk, h1, h2, hbn⟩ := hS2
        have hF2 := hS1.out.below hb2
        have cn := hbn.cell
        have cf := hbn.free
        have cp := hF2.bp.cell
        have cm := hF2.bm.cell
        have ct2 := (bt1.out.below hb2).cell
        have ln : (lineZ (blksN cs) cs.length n).length ≤ 41000 := by omega
        obtain ⟨b, o, rfl, c0⟩ := hst.out W2 hF2.hp
        replace hF2 := Lib.hid hF2
        replace hbn := Lib.hid hbn
        replace hSo := Lib.hid hSo
        replace h1 := Lib.hid h1
        clear hb2 ct hst
        generalize (lineZ (blksN cs) cs.length n).length = L at *
        generalize wB.heap.size = k9 at *
        gi_wp2
        exact ⟨(Only.refl S W2).setCell ⟨k9, 0, none⟩ _ h2, S, fun j hj => .inl hj, trivial, (fun j hj => by have := h1.out j hj; simpa [World.setCell] using this), h2, hbn.out.set _⟩
      case done =>
        intro D S W hD hSD hb _ hSw hS2 hK
        obtain ⟨hpk, h1, h2, hbn⟩ := hS2
        exact ⟨.inl rfl, D, rfl, (lineZ (blksN cs) cs.length n).length, rfl, hb, hbn, hK, hD⟩
      case stop =>
        intro D k c S W hkl hD hSD hb _ hSw hS2 hK
        exact hS2.1.2.elim
    case rest =>
      rintro _ W6 ⟨D2, rfl, m, hm, hb6, hn6, hD6, hDl⟩
      subst hm
      have hF6 := hS1.out.below hb6
      have ct6 := (bt1.out.below hb6).cell
      have cn6 := hn6.cell
      have cp6 := hF6.bp.cell
      have cm6 := hF6.bm.cell
      replace hF6 := Lib.hid hF6
      replace hn6 := Lib.hid hn6
      replace hb6 := Lib.hid hb6
      replace hD6 := Lib.hid hD6
      dsimp only
      go_wp2
      rw [rounds_succ]
      have h67 : Below W6.heap.size W6 (W6.alloc (.cells #[.int .i64 2] 3)) := xalloc (xrefl W6) _
      have btC := (Box.new W6 (.int .i64 2) 3).cell
      have hSC := Lib.hid (hF6.out.below h67)
      have hD1b := Lib.hid ((h67.block D1 (Array.getElem?_eq_some_iff.1 ((hb6.out.block D1 (Array.getElem?_eq_some_iff.1 hD1.out).1).trans hD1.out)).1).trans ((hb6.out.block D1 (Array.getElem?_eq_some_iff.1 hD1.out).1).trans hD1.out))
      have hD2b := Lib.hid ((h67.block D2 (Array.getElem?_eq_some_iff.1 hD6.out).1).trans hD6.out)
      have hdl1 := (Array.getElem?_eq_some_iff.1 hD1.out).1
      generalize W6.alloc (.cells #[.int .i64 2] 3) = wC at *
      have hd2w : D1 < D2 := by omega
      clear hB9 hn9 s9 hv hb6 hn6 hD6 hF6 ct6 cn6 cp6 cm6 h67 hD1
      go_wp2_with (go_at_call 25; refine (works12_any _).mono ?_; rintro e W8 ⟨rfl, hb8⟩; have hS8 := hSC.out.below hb8; have cr := hS8.br.cell; have fr := hS8.br.free; have hD1c := (hb8.block D1 (Array.getElem?_eq_some_iff.1 hD1b.out).1).trans hD1b.out; have hD2c := (hb8.block D2 (Array.getElem?_eq_some_iff.1 hD2b.out).1).trans hD2b.out; replace hS8 := Lib.hid hS8; replace hD1c := Lib.hid hD1c; replace hD2c := Lib.hid hD2c; replace hb8 := Lib.hid hb8)
      have hne : ∀ D, W8.heap[D]? = some (.deferred (some [])) → D ≠ w.heap.size + 1 := fun D h1 e => by
        have h2 := hS8.out.br
        unfold Box at h2
        rw [e, h2] at h1
        cases h1
      have hn1 := hne D1 hD1c.out
      have hn2 := hne D2 hD2c.out
      have hbE : Below w.heap.size w (W8.setCell ⟨w.heap.size + 1, 0, none⟩ (.bool true)) := hS8.out.hb.setCell (by simp only; omega) _
      have hE1 : (W8.setCell ⟨w.heap.size + 1, 0, none⟩ (.bool true)).heap[D1]? = some (.deferred (some [])) := (Below.heap_setCell _ ⟨w.heap.size + 1, 0, none⟩ _ D1 hn1).trans hD1c.out
      have hE2 : (W8.setCell ⟨w.heap.size + 1, 0, none⟩ (.bool true)).heap[D2]? = some (.deferred (some [])) := (Below.heap_setCell _ ⟨w.heap.size + 1, 0, none⟩ _ D2 hn2).trans hD2c.out
      have hE3 := hS8.out.br.set (.bool true)
      generalize W8.setCell ⟨w.heap.size + 1, 0, none⟩ (.bool true) = WE at hbE hE1 hE2 hE3 ⊢
      have hk1 : (WE.putObj D2 (.deferred none)).heap[D1]? = some (.deferred (some [])) := (World.putObj_heap_other (by omega)).trans hE1
      have ho := ((Only.refl (fun k => k = D2 ∨ k = D1) WE).putObj D2 (.deferred none) (.inl rfl)).putObj D1 (.deferred none) (.inr rfl)
      refine ⟨by simp, .inl ⟨_, _, rfl, run_takeDeferred hE2, by simp, .inl ⟨_, _, rfl, run_takeDeferred hk1, ?_⟩⟩⟩
      exact ⟨_, results_bool rfl _ _ (w.heap.size + 1) (.bool true) rfl (hE3.only ho (by omega)).cell, rfl, ho.below hbE hbE.size (by rintro i (rfl | rfl) <;> omega)⟩

set_option maxRecDepth 100000 in
set_option maxHeartbeats 2000000 in
theorem meetLines_walk (a : Option Addr) (c : Nat) (zs : List Int) (n x : Int) (w : World) (hl : zs.length ≤ c ∧ c ≤ 9223372036854775807) (hr : RowAt .u8 w a zs) (ha : a = none → c = 0) (hw : ∀ z ∈ zs, (Lit.int .u8 z).wf = true) (hn : -9223372036854775808 ≤ n ∧ n ≤ 9223372036854775807) (hx : -9223372036854775808 ≤ x ∧ x ≤ 9223372036854775807) (_ : TabF w) :
    Calls Tryz.prog 7 #[.slice a zs.length c, .int .i64 n, .int .i64 x] w (Yes w) := by
  by_cases h : (zs.length : Int) > 80
  · clear hr ha hw hl hn hx
    refine (callsIn_wide (n := 0)).1 ?_
    refine callsIn_of_wp_marks Tryz.func7 rfl trivial ?_ rfl
    simp only [Tryz.ntmps7, List.size_toArray, List.length_cons, List.length_nil, Nat.reduceAdd, Nat.reduceSub, Array.replicate_succ, Array.replicate_zero, List.push_toArray, List.append_toArray, List.nil_append, List.cons_append]
    refine wpIn_wide.2 ?_
    have br1 : Hid (Box ((w.alloc (.cells #[.int .i64 x] 3)).alloc (.cells #[.bool false] 4)) (w.heap.size + 1) (.bool false) 4) := Lib.hid (by have := Box.new (w.alloc (.cells #[.int .i64 x] 3)) (.bool false) 4; rwa [World.size_alloc] at this)
    go_wp2_with (go_at_call 25; refine (works12_any _).mono ?_; rintro e w3 ⟨rfl, b3⟩; have hB := br1.out.below b3; have cr := hB.cell; have fr := hB.free; replace hB := Lib.hid hB)
    have hbE : Below w.heap.size w (w3.setCell ⟨w.heap.size + 1, 0, none⟩ (.bool true)) := (xtrans (xalloc (xalloc (xrefl w) _) _) b3).setCell (by simp only; omega) _
    have hE3 := hB.out.set (.bool true)
    exact ⟨_, results_bool rfl _ _ (w.heap.size + 1) (.bool true) rfl hE3.cell, rfl, hbE⟩
  · obtain ⟨cs, rfl, hC⟩ := code_of hl hr ha hw (by omega)
    rw [natI_len] at h ⊢
    exact meetLines_go cs a c n x w hC (by omega) hx.1 hx.2
end Go.Proofs.YtijkdabmegbcjaaGreatDoor
