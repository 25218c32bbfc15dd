/- The walk of LabelMembers. -/
import Derived.Test.YtaapccjnidgbnaaDoorLabF
namespace Go.Proofs.YtaapccjnidgbnaaDoor
open Go.RowKit Go.Shelf
attribute [local go_sem] Oper.semAt_some

theorem pre_next {α : Type} {xs pre : List α} {x : α} {k : Nat} (h : pre ++ [x] = xs.take k) : ∃ hl : pre.length < xs.length, xs[pre.length] = x := by
  have h1 := congrArg List.length h
  rw [List.length_append, List.length_singleton, List.length_take] at h1
  refine ⟨by omega, ?_⟩
  have h2 := congrArg (·[pre.length]?) h
  simp only [List.getElem?_append_right (Nat.le_refl _), Nat.sub_self] at h2
  rw [List.getElem?_take_of_lt (show pre.length < k by omega), List.getElem?_eq_getElem (show pre.length < xs.length by omega)] at h2
  simpa using h2.symm
theorem memP_next {a : BitVec 64} {pre : List Pn} {m : Pn} {k : Nat} (h : pre ++ [m] = (memP a).take k) : ∃ hl : pre.length < (memL a).length, (memL a)[pre.length] = m.1 := by
  obtain ⟨hl, e⟩ := pre_next h
  exact ⟨by rw [← memP_len]; exact hl, by rw [← memP_get a _ hl, e]⟩
theorem fac_tab : Fac (· = gtab) Tab := ⟨fun _ _ h _ hs j hj => (World.cell?_of_block (hs gtab rfl (cell_lt (h j hj)))).trans (h j hj), fun _ h k hk => by rw [hk]; exact h.lt⟩
set_option maxRecDepth 100000 in
set_option maxHeartbeats 2000000 in
theorem labelMembers_walk (x : Int) (many : Int) (w : World) (hx : 0 ≤ x ∧ x ≤ 18446744073709551615) (hm : -9223372036854775808 ≤ many ∧ many ≤ 9223372036854775807) (hT : Tab w) :
    Calls Tryd.prog 4 #[.int .u64 x, .int .i64 many] w (Yes w) := by
  obtain ⟨a, rfl⟩ := bits_of x hx
  clear hx
  obtain ⟨hm1, hm2⟩ := hm
  have hrm := Lib.hid (refMembers_any a)
  have hln := mem_len a
  have hwlt := hT.lt
  have bm0 : Box ((w.alloc (Obj.cells #[Value.int .i64 many] 3)).alloc (Obj.cells #[Value.bool false] 4)) w.heap.size (.int .i64 many) 3 := (Box.new w _ _).below (xalloc (xrefl _) _)
  have br0 : Box ((w.alloc (Obj.cells #[Value.int .i64 many] 3)).alloc (Obj.cells #[Value.bool false] 4)) (w.heap.size + 1) (.bool false) 4 := by have := Box.new (w.alloc (Obj.cells #[Value.int .i64 many] 3)) (.bool false) 4; rwa [World.size_alloc] at this
  have hb0 : Below w.heap.size w ((w.alloc (Obj.cells #[Value.int .i64 many] 3)).alloc (Obj.cells #[Value.bool false] 4)) := xalloc (xalloc (xrefl w) _) _
  replace bm0 := Lib.hid bm0
  replace br0 := Lib.hid br0
  replace hb0 := Lib.hid hb0
  replace hT := Lib.hid hT
  refine (callsIn_wide (n := 0)).1 ?_
  refine callsIn_of_wp_marks Tryd.func4 rfl trivial ?_ rfl
  simp only [Tryd.ntmps4, List.size_toArray, List.length_cons, List.length_nil, Nat.reduceAdd, Nat.reduceSub, Array.replicate_succ, Array.replicate_zero, List.push_toArray, List.append_toArray, List.nil_append, List.cons_append]
  refine wpIn_wide.2 ?_
  have hnil := fun W bx => run_eql_fn_nil (P := Tryd.prog) 36 (by kernel_rfl) (.func 27) #[] #[.pointer (some ⟨bx, 0, none⟩)] W
  go_wp2_with (first
    | (go_at_call 13; refine (hrm.out _).mono ?_; rintro e w1 ⟨v, rfl, hown, hb1⟩; obtain ⟨a1, c1, rfl, hr1, -, hge1, -⟩ := rowAt_own hown; simp only [List.length_map])
    | (go_at_call 14; refine (members_any a _).mono ?_; rintro e w2 ⟨rfl, hw2⟩))
  obtain ⟨p5, hp5⟩ : ∃ p5, p5 = w1.heap.size := ⟨_, rfl⟩
  have hx2 : Below w1.heap.size w1 w2 := by rw [← hw2]; exact xalloc (xalloc (xrefl w1) _) _
  have bp2 : Box w2 p5 (.slice a1 (memL a).length c1) 33 := by rw [← hw2, hp5]; exact (Box.new w1 _ _).below (xalloc (xrefl _) _)
  have bx2 : Box w2 (p5 + 1) (.int .u64 (iv64 a)) 23 := by
    rw [← hw2]
    have := Box.new (w1.alloc (Obj.cells #[.slice a1 (memL a).length c1] 33)) (.int .u64 (iv64 a)) 23
    rw [World.size_alloc, ← hp5] at this
    exact this
  have s2 : w2.heap.size = p5 + 2 := by rw [← hw2, hp5]; simp
  have s1 : w.heap.size + 2 ≤ p5 := by have := hb1.size; rw [hp5]; simpa using this
  have bm2 := (bm0.out.below hb1).below hx2
  have br2 := (br0.out.below hb1).below hx2
  have hr2 := hr1.below hx2
  have hb2 := xtrans (xtrans hb0.out hb1) hx2
  have hT2 := hT.out.below hb2
  rw [← hp5]
  clear hw2 hx2 hp5 hr1 hb1 hown bm0 br0 hb0 hrm
  -- what stays while all goes on
  obtain ⟨F, hF⟩ : ∃ F : World → Prop, F = fun W => Box W w.heap.size (.int .i64 many) 3 ∧ Box W p5 (.slice a1 (memL a).length c1) 33 ∧ W.cell? ⟨p5 + 1, 0, none⟩ = some (.int .u64 (iv64 a)) ∧ RowAt .i64 W a1 ((memL a).map fun j : Nat => (j : Int)) ∧ Tab W := ⟨_, rfl⟩
  have fF : Fac (fun k => k = w.heap.size ∨ k = p5 ∨ k = p5 + 1 ∨ ((memL a).map (fun j : Nat => (j : Int)) ≠ [] ∧ ∃ y, a1 = some y ∧ y.block = k) ∨ k = gtab) F := by
    rw [hF]
    exact (Fac.box _ _ _).and ((Fac.box _ _ _).and ((Fac.cell _ _ _).and ((Fac.row _ _).and fac_tab)))
  have hF2 : F w2 := by rw [hF]; exact ⟨bm2, bp2, bx2.cell, hr2, hT2⟩
  have getF : ∀ W, F W → Box W w.heap.size (.int .i64 many) 3 ∧ Box W p5 (.slice a1 (memL a).length c1) 33 ∧ W.cell? ⟨p5 + 1, 0, none⟩ = some (.int .u64 (iv64 a)) ∧ RowAt .i64 W a1 ((memL a).map fun j : Nat => (j : Int)) ∧ Tab W := fun W h => by rw [hF] at h; exact h
  generalize hS : (fun k => k = w.heap.size ∨ k = p5 ∨ k = p5 + 1 ∨ ((memL a).map (fun j : Nat => (j : Int)) ≠ [] ∧ ∃ y, a1 = some y ∧ y.block = k) ∨ k = gtab) = S at fF
  have hbx : p5 + 1 < w2.heap.size := by omega
  have hrcS : ¬ S (w.heap.size + 1) := by
    rw [← hS]
    rintro (h | h | h | ⟨h0, y, h, h'⟩ | h)
    · omega
    · omega
    · omega
    · have := hge1 _ h; simp only [World.size_alloc] at this; omega
    · omega
  generalize hbxe : p5 + 1 = bx at *
  replace hbxe := Lib.hid hbxe
  replace hF := Lib.hid hF
  replace hS := Lib.hid hS
  clear bm2 bp2 bx2 hr2
  replace br2 := Lib.hid br2
  replace hb2 := Lib.hid hb2
  replace getF := Lib.hid getF
  refine wp_loop_ghost_k (fun n ac W => ∃ (t p7 : Nat) (Ds : List Nat) (u : Nat → Value), ac = { tmps := #[.int .u64 (iv64 a), .int .i64 many, undef, .pointer (some ⟨w.heap.size, 0, none⟩), .pointer (some ⟨w.heap.size + 1, 0, none⟩), .pointer (some ⟨p5, 0, none⟩), .func (.func 27) #[] #[.pointer (some ⟨bx, 0, none⟩)], .pointer (some ⟨p7, 0, none⟩), u 8, u 9, .int .u64 (iv64 a), .slice a1 (memL a).length c1, .int .u64 (iv64 a), .func (.func 27) #[] #[.pointer (some ⟨bx, 0, none⟩)], .func (.func 27) #[] #[.pointer (some ⟨bx, 0, none⟩)], .bool false, u 16, u 17, u 18, u 19, u 20, u 21, u 22, u 23, u 24, u 25, u 26, u 27, u 28, u 29, u 30, u 31, u 32, u 33, u 34, u 35, u 36, u 37, u 38, u 39, u 40, u 41, u 42, u 43, u 44, u 45, u 46, u 47, u 48, u 49, u 50, u 51, u 52, u 53, u 54, u 55, u 56, u 57, u 58, u 59, u 60, u 61, u 62, u 63, u 64, undef], defers := Ds.map fun D => { target := .collected D, args := #[] } } ∧ n + t = 2 ∧ Ds.length = t ∧ (Ds.Nodup ∧ ∀ D ∈ Ds, w.heap.size ≤ D) ∧ F W ∧ (∀ D ∈ Ds, W.heap[D]? = some (.deferred (some []))) ∧ Box W p7 (.int .i64 t) 3 ∧ Box W (w.heap.size + 1) (.bool false) 4 ∧ (¬ (S p7 ∨ p7 ∈ Ds ∨ p7 = w.heap.size + 1)) ∧ Below w.heap.size w W) 2 ?start ?round
  case start =>
    have h3 := xalloc (xrefl w2) (Obj.cells #[Value.int .i64 0] 3)
    refine ⟨0, w2.heap.size, [], fun _ => undef, rfl, rfl, rfl, ⟨List.nodup_nil, fun D h => by cases h⟩, fF.below hF2 h3, (fun D h => by cases h), Box.new w2 _ _, br2.out.below h3, ?_, xtrans hb2.out h3⟩
    rintro (h | h | h)
    · have := fF.lt _ hF2 _ h; omega
    · cases h
    · omega
  case round =>
    rintro gk _ W ⟨t, p7, Ds, u, rfl, hn, hDl, ⟨hnd, hge⟩, hFW, hDs, b7, br, hns, hbW⟩ J K hJ hK
    have c7 := b7.cell
    replace hJ := Lib.hid hJ
    replace hF' := Lib.hid hFW
    replace hDs := Lib.hid hDs
    replace hDl := Lib.hid hDl
    replace hge := Lib.hid hge
    replace br := Lib.hid br
    replace b7 := Lib.hid b7
    replace hbW := Lib.hid hbW
    replace hns := Lib.hid hns
    clear hFW
    by_cases ht : t < 2
    · have ht2 : (t : Int) < 2 := by omega
      go_wp2
      -- the world of the range
      have hbn := xalloc (xrefl W) (Obj.cells #[Value.int .i64 0] 3)
      have b8 := Box.new W (.int .i64 0) 3
      obtain ⟨p8, hp8⟩ : ∃ p8, p8 = W.heap.size := ⟨_, rfl⟩
      obtain ⟨W1, hW1⟩ : ∃ W1, W.alloc (Obj.cells #[Value.int .i64 0] 3) = W1 := ⟨_, rfl⟩
      have hs1 : W1.heap.size = p8 + 1 := by rw [← hW1, hp8]; simp
      have f2 : Fac (fun k => k = p7 ∨ k ∈ Ds) (fun W => Box W p7 (.int .i64 t) 3 ∧ ∀ D ∈ Ds, W.heap[D]? = some (.deferred (some []))) := (Fac.box _ _ _).and (Fac.marks Ds)
      have f3 := fF.and f2
      have hlt : ∀ k, (S k ∨ k = p7 ∨ k ∈ Ds) → k < p8 := fun k hk => by rw [hp8]; exact f3.lt W ⟨hF'.out, b7.out, hDs.out⟩ k hk
      have hrcl := br.out.lt
      have h1F := f3.below ⟨hF'.out, b7.out, hDs.out⟩ hbn
      have h1r := br.out.below hbn
      have h1w := xtrans hbW.out hbn
      rw [hW1] at b8 hbn h1F h1r h1w ⊢
      rw [← hp8] at b8 hrcl ⊢
      clear hW1 hbn hF' b7 hDs br hbW c7
      have hM : ∀ k, ((S k ∨ k = p7 ∨ k ∈ Ds) ∨ k = w.heap.size + 1 ∨ k = p8) → k < W1.heap.size := fun k hk => by
        rcases hk with h | h | h
        · have := hlt k h; omega
        · omega
        · omega
      have h00 : TI (α := Pn) w (fun W => F W ∧ Box W p7 (.int .i64 t) 3 ∧ ∀ D ∈ Ds, W.heap[D]? = some (.deferred (some []))) (w.heap.size + 1) p8 many t (fun _ => False) [] W1 := ⟨h1F, b8, h1r, fun _ => .inl rfl, h1w⟩
      have hwW := h1w.size
      replace h00 := Lib.hid h00
      replace hp8 := Lib.hid hp8
      replace f3 := Lib.hid f3
      replace fF := Lib.hid fF
      replace f2 := Lib.hid f2
      obtain ⟨-, -, hcx, -, hTb⟩ := getF.out W1 h1F.1
      replace hTb := Lib.hid hTb
      clear b8 h1F h1r h1w
      have hms := memP_len a
      replace hms := Lib.hid hms
      refine wp_mid 2 (TM w W1 (fun W => F W ∧ Box W p7 (.int .i64 t) 3 ∧ ∀ D ∈ Ds, W.heap[D]? = some (.deferred (some []))) (w.heap.size + 1) p8 (memL a).length many t) ?range ?rest (fun _ _ h => h)
      case range =>
        refine (wpIn_wide (n := 0)).1 ?_
        refine wp_rangeP (gf := 27) (lb := #[.pointer (some ⟨bx, 0, none⟩)]) rfl (enters_of Tryd.func27 (by kernel_rfl) rfl) (encs := fun x : Pn => #[.int .i64 x.1]) (Rd := fun k => k = gtab)
          (S := fun xs => xs = memP a) (Sp := fun pre => ∃ k, k ≤ (memP a).length ∧ pre = (memP a).take k) (N := (memP a).length) (inf := false) (fun k h => by omega)
          (fun W1 hb1 => members_seq a _ W1 (cbel hb1 hcx) (hTb.out.below hb1)) (fun x => rfl) (TI w (fun W => F W ∧ Box W p7 (.int .i64 t) 3 ∧ ∀ D ∈ Ds, W.heap[D]? = some (.deferred (some []))) (w.heap.size + 1) p8 many t) (TX 2 w (fun W => F W ∧ Box W p7 (.int .i64 t) 3 ∧ ∀ D ∈ Ds, W.heap[D]? = some (.deferred (some []))) (w.heap.size + 1) p8 many t) (ti_stable f3.out.on hM hwW) (tx_stable f3.out.on hM hwW) h00.out (fun h => by cases h) ?round ?done ?stop
        case round =>
          rintro l1 O pre m W2 hOl hO hI hlen ⟨k, hk, hpre⟩
          gi_wp2
          refine ⟨Keep.refl _ _, fun W3 hon => ?_⟩
          have hI3 := hI.only (O2 := O) f3.out.on hM hwW hon (fun k e => by have := (hO l1 hOl).1; omega)
          obtain ⟨hnl, hne⟩ := memP_next hpre
          obtain ⟨n, hn⟩ : ∃ n, n = pre.length := ⟨_, rfl⟩
          obtain ⟨hFW, b8, b0, h0x, hbw⟩ := hI3
          rw [← hn] at b8 h0x
          obtain ⟨bm, bp, -, hrow, -⟩ := getF.out _ hFW.1
          obtain ⟨rb, ro, rfl, ce⟩ : ∃ rb ro, a1 = some ⟨rb, ro, none⟩ ∧ W3.cell? ⟨rb, ro + n, none⟩ = some (.int .i64 (m.1 : Int)) := by
            subst hn
            obtain ⟨rb, ro, e, ce⟩ := hrow pre.length (by rw [List.length_map]; exact hnl)
            rw [List.getElem_map, hne] at ce
            exact ⟨rb, ro, e, ce⟩
          have hp78 : ¬ (p8 = p7) := by have := hlt p7 (.inr (.inl rfl)); omega
          have hp28 : ¬ (p8 = w.heap.size) := by omega
          have cm := bm.cell
          have cp := bp.cell
          have ct := hFW.2.1.cell
          have cn := b8.cell
          have fn := b8.free
          have hn64 : n < 64 := by omega
          have hnl2 : n < (memL a).length := by omega
          have hnxt := TI.next (O := O) (y := m) (n := n + 1) (⟨hFW, by rw [← hn]; exact b8, b0, by rw [← hn]; exact h0x, hbw⟩ : TI (α := Pn) w _ (w.heap.size + 1) p8 many t O pre W3) f3.out.on (fun k hk => by have := hlt k hk; omega) (by omega) (by omega) (by omega)
          have hkp : Keep (fun k => O k ∨ k = gtab) W3 (W3.setCell ⟨p8, 0, none⟩ (.int .i64 ((n + 1 : Nat) : Int))) := (Keep.refl _ _).setCell _ _ (by
            rintro (h | h)
            · have := (hO _ h).1; simp only at this; omega
            · simp only at h; omega)
          have hlen1 : (pre ++ [m]).length = n + 1 := by rw [hn]; simp
          have hmm : m.1 < 64 := m.2
          replace hnxt := Lib.hid hnxt
          replace hkp := Lib.hid hkp
          replace hlen1 := Lib.hid hlen1
          replace hn := Lib.hid hn
          replace h0x := Lib.hid h0x
          clear hne hI hon bm bp b8 b0 hbw hFW hrow hpre hnl
          have ht01 : t = 0 ∨ t = 1 := by omega
          rcases ht01 with rfl | rfl
          · by_cases hmn : many ≤ (n : Int) + 1
            · gi_wp2
              refine ⟨hkp.out, rfl, rfl, hnxt.out.1, hnxt.out.2.1, hnxt.out.2.2.1, ?_, hnxt.out.2.2.2⟩
              rw [hlen1.out]
              have := h0x.out trivial
              refine ⟨by omega, by omega, by omega⟩
            · gi_wp2
              refine ⟨hkp.out, hnxt.out.1, hnxt.out.2.1, hnxt.out.2.2.1, fun _ => ?_, hnxt.out.2.2.2⟩
              rw [hlen1.out]
              exact .inr (by omega)
          · gi_wp2
            exact ⟨hkp.out, hnxt.out.1, hnxt.out.2.1, hnxt.out.2.2.1, fun h => (by cases h), hnxt.out.2.2.2⟩
        case done =>
          rintro D xs O W2 hD hOD hO rfl ⟨h1, h2, h3, h4, h5⟩ hK
          rw [hms.out] at h2 h4
          exact ⟨.inl rfl, D, rfl, hD, hK, _, fun e => two_first (.inl ⟨rfl, h4 e⟩), fun _ => rfl, h1, h2, h3, h5⟩
        case stop =>
          rintro D c pre O W2 hD hOD hO ⟨k, hk, hpre⟩ ⟨rfl, ht0, h1, h2, h3, h4, h5⟩ hK
          have hpl : pre.length ≤ (memL a).length := by rw [hpre, List.length_take]; have := hms.out; omega
          subst ht0
          gi_wp2
          exact ⟨D, rfl, hD, hK, pre.length, fun _ => two_first (.inr ⟨hpl, h4⟩), fun e => by omega, h1, h2, h3, h5⟩
      case rest =>
        rintro _ W6 ⟨D, rfl, hD, hK, n, hn0, hn1, ⟨hFW, b7, hDs⟩, b8, br, hbW⟩
        obtain ⟨bm, bp, -⟩ := getF.out _ hFW
        have ct := b7.cell
        have cn := b8.cell
        have cp := bp.cell
        have cm := bm.cell
        have hnd2 : (D :: Ds).Nodup := List.nodup_cons.2 ⟨fun h => by have := hlt D (.inr (.inr h)); omega, hnd⟩
        have hge2 : Hid (∀ D' ∈ D :: Ds, w.heap.size ≤ D') := Lib.hid fun D' h => by
          rcases List.mem_cons.1 h with rfl | h
          · omega
          · exact hge.out D' h
        have hD2 : ∀ D' ∈ D :: Ds, W6.heap[D']? = some (.deferred (some [])) := fun D' h => by
          rcases List.mem_cons.1 h with rfl | h
          · exact hK
          · exact hDs D' h
        have hdl2 : (D :: Ds).length = t + 1 := by rw [List.length_cons, hDl.out]
        have h67 := xalloc (xrefl W6) (Obj.cells #[Value.int .i64 ((t + 1 : Nat) : Int)] 3)
        have e1 := fF.out.below hFW h67
        have e2 := (Fac.marks (D :: Ds)).below hD2 h67
        have e3 := Box.new W6 (.int .i64 ((t + 1 : Nat) : Int)) 3
        have e4 := br.below h67
        have e5 : ¬ (S W6.heap.size ∨ W6.heap.size ∈ D :: Ds ∨ W6.heap.size = w.heap.size + 1) := by
          rintro (h | h | h)
          · have := fF.out.lt _ hFW _ h; omega
          · have := (Array.getElem?_eq_some_iff.1 (hD2 _ h)).1; omega
          · have := br.lt; omega
        have e6 := xtrans hbW h67
        replace hnd2 := Lib.hid hnd2
        replace hdl2 := Lib.hid hdl2
        replace e1 := Lib.hid e1
        replace e2 := Lib.hid e2
        replace e3 := Lib.hid e3
        replace e4 := Lib.hid e4
        replace e5 := Lib.hid e5
        replace e6 := Lib.hid e6
        clear hnd h67 hD2 hK hDs hFW b7 b8 br hbW bm bp
        have ht01 : t = 0 ∨ t = 1 := by omega
        have fin : ∀ ac W7, ac = { tmps := #[.int .u64 (iv64 a), .int .i64 many, undef, .pointer (some ⟨w.heap.size, 0, none⟩), .pointer (some ⟨w.heap.size + 1, 0, none⟩), .pointer (some ⟨p5, 0, none⟩), .func (.func 27) #[] #[.pointer (some ⟨bx, 0, none⟩)], .pointer (some ⟨W6.heap.size, 0, none⟩), ac.tmps.getD 8 undef, ac.tmps.getD 9 undef, .int .u64 (iv64 a), .slice a1 (memL a).length c1, .int .u64 (iv64 a), .func (.func 27) #[] #[.pointer (some ⟨bx, 0, none⟩)], .func (.func 27) #[] #[.pointer (some ⟨bx, 0, none⟩)], .bool false, ac.tmps.getD 16 undef, ac.tmps.getD 17 undef, ac.tmps.getD 18 undef, ac.tmps.getD 19 undef, ac.tmps.getD 20 undef, ac.tmps.getD 21 undef, ac.tmps.getD 22 undef, ac.tmps.getD 23 undef, ac.tmps.getD 24 undef, ac.tmps.getD 25 undef, ac.tmps.getD 26 undef, ac.tmps.getD 27 undef, ac.tmps.getD 28 undef, ac.tmps.getD 29 undef, ac.tmps.getD 30 undef, ac.tmps.getD 31 undef, ac.tmps.getD 32 undef, ac.tmps.getD 33 undef, ac.tmps.getD 34 undef, ac.tmps.getD 35 undef, ac.tmps.getD 36 undef, ac.tmps.getD 37 undef, ac.tmps.getD 38 undef, ac.tmps.getD 39 undef, ac.tmps.getD 40 undef, ac.tmps.getD 41 undef, ac.tmps.getD 42 undef, ac.tmps.getD 43 undef, ac.tmps.getD 44 undef, ac.tmps.getD 45 undef, ac.tmps.getD 46 undef, ac.tmps.getD 47 undef, ac.tmps.getD 48 undef, ac.tmps.getD 49 undef, ac.tmps.getD 50 undef, ac.tmps.getD 51 undef, ac.tmps.getD 52 undef, ac.tmps.getD 53 undef, ac.tmps.getD 54 undef, ac.tmps.getD 55 undef, ac.tmps.getD 56 undef, ac.tmps.getD 57 undef, ac.tmps.getD 58 undef, ac.tmps.getD 59 undef, ac.tmps.getD 60 undef, ac.tmps.getD 61 undef, ac.tmps.getD 62 undef, ac.tmps.getD 63 undef, ac.tmps.getD 64 undef, undef], defers := (D :: Ds).map fun D => { target := .collected D, args := #[] } } → W6.alloc (Obj.cells #[Value.int .i64 ((t + 1 : Nat) : Int)] 3) = W7 → Handed J gk ac W7 := by
          rintro ac W7 hac rfl
          refine Handed.intro (gk - 1) (by omega) (hJ.out _ _ _ ⟨t + 1, W6.heap.size, D :: Ds, fun k => ac.tmps.getD k undef, hac, by omega, hdl2.out, ⟨hnd2.out, hge2.out⟩, e1.out, e2.out, e3.out, e4.out, e5.out, e6.out⟩)
        replace fin := Lib.hid fin
        dsimp only
        rcases ht01 with rfl | rfl
        · have hne := hn0 rfl
          clear hn0 hn1
          go_wp2
          exact fin.out _ _ rfl rfl
        · obtain rfl := hn1 rfl
          clear hn0 hn1
          go_wp2
          exact fin.out _ _ rfl rfl
    · obtain rfl : t = 2 := by omega
      obtain ⟨D2, D1, rfl⟩ : ∃ D2 D1, Ds = [D2, D1] := by
        match Ds, hDl.out with
        | [a, b], _ => exact ⟨a, b, rfl⟩
      have hb2w := hbW.out.size
      have htb := (getF.out W hF'.out).2.2.2.2
      replace htb := Lib.hid htb
      clear ht
      go_wp2_with (go_at_call 7; refine (works_any _ htb.out).mono ?_; rintro e W8 ⟨rfl, hb8⟩; have br8 := br.out.below hb8; have cr := br8.cell; have fr := br8.free; have hD8 := (Fac.marks [D2, D1]).below hDs.out hb8; replace br8 := Lib.hid br8; replace hD8 := Lib.hid hD8)
      have hbE : Below w.heap.size w (W8.setCell ⟨w.heap.size + 1, 0, none⟩ (.bool true)) := (xtrans hbW.out hb8).setCell (by simp only; omega) _
      have hne : ∀ D ∈ [D2, D1], D ≠ w.heap.size + 1 := fun D h e => by
        have h1 := hD8.out D h
        have h2 := br8.out
        unfold Box at h2
        rw [e, h2] at h1
        cases h1
      have hE1 : (W8.setCell ⟨w.heap.size + 1, 0, none⟩ (.bool true)).heap[D1]? = some (.deferred (some [])) := (Below.heap_setCell _ ⟨w.heap.size + 1, 0, none⟩ _ D1 (hne D1 (by simp))).trans (hD8.out D1 (by simp))
      have hE2 : (W8.setCell ⟨w.heap.size + 1, 0, none⟩ (.bool true)).heap[D2]? = some (.deferred (some [])) := (Below.heap_setCell _ ⟨w.heap.size + 1, 0, none⟩ _ D2 (hne D2 (by simp))).trans (hD8.out D2 (by simp))
      have hE3 := br8.out.set (.bool true)
      generalize W8.setCell ⟨w.heap.size + 1, 0, none⟩ (.bool true) = WE at hbE hE1 hE2 hE3 ⊢
      have hn1 := hne D1 (by simp)
      have hn2 := hne D2 (by simp)
      have hnd12 : D2 ≠ D1 := by have := (List.nodup_cons.1 hnd).1; simpa using this
      have hk1 : (WE.putObj D2 (.deferred none)).heap[D1]? = some (.deferred (some [])) := (World.putObj_heap_other (by omega)).trans hE1
      have ho := ((Only.refl (fun k => k = D2 ∨ k = D1) WE).putObj D2 (.deferred none) (.inl rfl)).putObj D1 (.deferred none) (.inr rfl)
      have hg1 := hge.out D1 (by simp)
      have hg2 := hge.out D2 (by simp)
      refine ⟨by simp, .inl ⟨_, _, rfl, run_takeDeferred hE2, by simp, .inl ⟨_, _, rfl, run_takeDeferred hk1, ?_⟩⟩⟩
      exact ⟨_, results_bool rfl _ _ (w.heap.size + 1) (.bool true) rfl (hE3.only ho (by omega)).cell, rfl, ho.below hbE hbE.size (by rintro i (rfl | rfl) <;> omega)⟩
end Go.Proofs.YtaapccjnidgbnaaDoor
