/- The walk of ShareKinds. -/
import Derived.Test.YtioihjgobmbanaaShKi
import Derived.Test.YtioihjgobmbanaaShareW
import Derived.Test.YtioihjgobmbanaaOpen
namespace Go.Proofs.Ytioihjgobmbanaa
open Go.RowKit Go.Shelf
attribute [local go_sem] Oper.semAt_some

theorem pre_next {α : Type} {xs pre : List α} {x : α} {k : Nat} (h : pre ++ [x] = xs.take k) : ∃ hl : pre.length < xs.length, xs[pre.length] = x := by
  have h1 := congrArg List.length h
  rw [List.length_append, List.length_singleton, List.length_take] at h1
  refine ⟨by omega, ?_⟩
  have h2 := congrArg (·[pre.length]?) h
  simp only [List.getElem?_append_right (Nat.le_refl _), Nat.sub_self] at h2
  rw [List.getElem?_take_of_lt (show pre.length < k by omega), List.getElem?_eq_getElem (show pre.length < xs.length by omega)] at h2
  simpa using h2.symm
theorem kindsF_any (w : World) : Calls Try.prog 22 #[] w fun e w' => e = .returned (.func (.func 36) #[] #[]) ∧ w = w' := by
  go_enter Try.func22, Try.ntmps22
  go_wp2
  go_ret
  exact ⟨rfl, rfl⟩
set_option maxRecDepth 100000 in
set_option maxHeartbeats 4000000 in
theorem shareKinds_walk (many : Int) (w : World) (hm : -9223372036854775808 ≤ many ∧ many ≤ 9223372036854775807) :
    Calls Try.prog 7 #[.int .i64 many] w (Yes w) := by
  obtain ⟨hm1, hm2⟩ := hm
  have bm0 : Box ((w.alloc (Obj.cells #[Value.int .i64 many] 3)).alloc (Obj.cells #[Value.bool false] 4)) w.heap.size (.int .i64 many) 3 := (Box.new w _ _).below (xalloc (xrefl _) _)
  have br2 : Box ((w.alloc (Obj.cells #[Value.int .i64 many] 3)).alloc (Obj.cells #[Value.bool false] 4)) (w.heap.size + 1) (.bool false) 4 := by have := Box.new (w.alloc (Obj.cells #[Value.int .i64 many] 3)) (.bool false) 4; rwa [World.size_alloc] at this
  have hb2 : Below w.heap.size w ((w.alloc (Obj.cells #[Value.int .i64 many] 3)).alloc (Obj.cells #[Value.bool false] 4)) := xalloc (xalloc (xrefl w) _) _
  have hs2 : ((w.alloc (Obj.cells #[Value.int .i64 many] 3)).alloc (Obj.cells #[Value.bool false] 4)).heap.size = w.heap.size + 2 := by simp
  refine (callsIn_wide (n := 0)).1 ?_
  refine callsIn_of_wp_marks Try.func7 rfl trivial ?_ rfl
  simp only [Try.ntmps7, List.size_toArray, List.length_cons, List.length_nil, Nat.reduceAdd, Nat.reduceSub, Array.replicate_succ, Array.replicate_zero, List.push_toArray, List.append_toArray, List.nil_append, List.cons_append]
  refine wpIn_wide.2 ?_
  have hnil := fun W => run_eql_fn_nil (P := Try.prog) 49 (by kernel_rfl) (.func 36) #[] #[] W
  replace bm0 := Lib.hid bm0
  replace br2 := Lib.hid br2
  replace hb2 := Lib.hid hb2
  replace hs2 := Lib.hid hs2
  go_wp2_with (go_at_call 22; refine (kindsF_any _).mono ?_; rintro e w' ⟨rfl, rfl⟩)
  have hsa : ((w.alloc (Obj.cells #[Value.int .i64 many] 3)).alloc (Obj.cells #[Value.bool false] 4)).alloc (Obj.cells #[Value.int .i64 0] 3) = ((w.alloc (Obj.cells #[Value.int .i64 many] 3)).alloc (Obj.cells #[Value.bool false] 4)).alloc (Obj.cells #[Value.int .i64 0] 3) := rfl
  rw [← hs2.out]
  generalize ((w.alloc (Obj.cells #[Value.int .i64 many] 3)).alloc (Obj.cells #[Value.bool false] 4)) = w2 at *
  clear hsa
  obtain ⟨F, hF⟩ : ∃ F : World → Prop, F = fun W => Box W w.heap.size (.int .i64 many) 3 := ⟨_, rfl⟩
  have fF : Fac (fun k => k = w.heap.size) F := by rw [hF]; exact Fac.box _ _ _
  have hF2 : F w2 := by rw [hF]; exact bm0.out
  have getF : ∀ W, F W → Box W w.heap.size (.int .i64 many) 3 := fun W h => by rw [hF] at h; exact h
  generalize hS : (fun k => k = w.heap.size) = S at fF
  have hrcS : ¬ S (w.heap.size + 1) := by rw [← hS]; show ¬ (w.heap.size + 1 = w.heap.size); omega
  have s2 : w2.heap.size = w.heap.size + 2 := hs2.out
  replace hF := Lib.hid hF
  replace hS := Lib.hid hS
  replace getF := Lib.hid getF
  clear bm0
  refine wp_loop_ghost_k (fun n ac W => ∃ (t p7 : Nat) (Ds : List Nat) (u : Nat → Value), ac = { tmps := #[.int .i64 many, .pointer (some ⟨w.heap.size, 0, none⟩), .pointer (some ⟨w.heap.size + 1, 0, none⟩), .func (.func 36) #[] #[], .pointer (some ⟨p7, 0, none⟩), u 5, u 6, u 7, .func (.func 36) #[] #[], .func (.func 36) #[] #[], .bool false, u 11, u 12, u 13, u 14, u 15, u 16, u 17, u 18, u 19, u 20, u 21, u 22, u 23, u 24, u 25, u 26, u 27, u 28, u 29, u 30, u 31, u 32, u 33, u 34, u 35, u 36, u 37, u 38, u 39, u 40, u 41, u 42, u 43, u 44, u 45, u 46, u 47, u 48, u 49, u 50, u 51, u 52, u 53, u 54, u 55, u 56, u 57, u 58, u 59, undef], defers := Ds.map fun D => { target := .collected D, args := #[] } } ∧ n + t = 2 ∧ Ds.length = t ∧ (Ds.Nodup ∧ ∀ D ∈ Ds, w.heap.size ≤ D) ∧ F W ∧ (∀ D ∈ Ds, W.heap[D]? = some (.deferred (some []))) ∧ Box W p7 (.int .i64 t) 3 ∧ Box W (w.heap.size + 1) (.bool false) 4 ∧ (¬ (S p7 ∨ p7 ∈ Ds ∨ p7 = w.heap.size + 1)) ∧ Below w.heap.size w W) 2 ?start ?round
  case start =>
    have h3 := xalloc (xrefl w2) (Obj.cells #[Value.int .i64 0] 3)
    refine ⟨0, w2.heap.size, [], fun _ => undef, rfl, rfl, rfl, ⟨List.nodup_nil, fun D h => by cases h⟩, fF.below hF2 h3, (fun D h => by cases h), Box.new w2 _ _, br2.out.below h3, ?_, xtrans hb2.out h3⟩
    rintro (h | h | h)
    · have := fF.lt _ hF2 _ h; omega
    · cases h
    · omega
  case round =>
    rintro gk _ W ⟨t, p7, Ds, u, rfl, hn, hDl, ⟨hnd, hge⟩, hFW, hDs, b7, br, hns, hbW⟩ J K hJ hK
    have c7 := b7.cell
    replace hJ := Lib.hid hJ
    replace hF' := Lib.hid hFW
    replace hDs := Lib.hid hDs
    replace hDl := Lib.hid hDl
    replace hge := Lib.hid hge
    replace br := Lib.hid br
    replace b7 := Lib.hid b7
    replace hbW := Lib.hid hbW
    replace hns := Lib.hid hns
    clear hFW
    by_cases ht : t < 2
    · have ht2 : (t : Int) < 2 := by omega
      go_wp2
      -- the world of the range
      have hbn := xalloc (xrefl W) (Obj.cells #[Value.int .i64 0] 3)
      have b8 := Box.new W (.int .i64 0) 3
      obtain ⟨p8, hp8⟩ : ∃ p8, p8 = W.heap.size := ⟨_, rfl⟩
      obtain ⟨W1, hW1⟩ : ∃ W1, W.alloc (Obj.cells #[Value.int .i64 0] 3) = W1 := ⟨_, rfl⟩
      have hs1 : W1.heap.size = p8 + 1 := by rw [← hW1, hp8]; simp
      have f2 : Fac (fun k => k = p7 ∨ k ∈ Ds) (fun W => Box W p7 (.int .i64 t) 3 ∧ ∀ D ∈ Ds, W.heap[D]? = some (.deferred (some []))) := (Fac.box _ _ _).and (Fac.marks Ds)
      have f3 := fF.and f2
      have hlt : ∀ k, (S k ∨ k = p7 ∨ k ∈ Ds) → k < p8 := fun k hk => by rw [hp8]; exact f3.lt W ⟨hF'.out, b7.out, hDs.out⟩ k hk
      have hrcl := br.out.lt
      have h1F := f3.below ⟨hF'.out, b7.out, hDs.out⟩ hbn
      have h1r := br.out.below hbn
      have h1w := xtrans hbW.out hbn
      rw [hW1] at b8 hbn h1F h1r h1w ⊢
      rw [← hp8] at b8 hrcl ⊢
      clear hW1 hbn hF' b7 hDs br hbW c7
      have hM : ∀ k, ((S k ∨ k = p7 ∨ k ∈ Ds) ∨ k = w.heap.size + 1 ∨ k = p8) → k < W1.heap.size := fun k hk => by
        rcases hk with h | h | h
        · have := hlt k h; omega
        · omega
        · omega
      have h00 : TI (α := Int) w (fun W => F W ∧ Box W p7 (.int .i64 t) 3 ∧ ∀ D ∈ Ds, W.heap[D]? = some (.deferred (some []))) (w.heap.size + 1) p8 many t (fun _ => False) [] W1 := ⟨h1F, b8, h1r, fun _ => .inl rfl, h1w⟩
      have hwW := h1w.size
      replace h00 := Lib.hid h00
      replace hp8 := Lib.hid hp8
      replace f3 := Lib.hid f3
      replace fF := Lib.hid fF
      replace f2 := Lib.hid f2
      clear b8 h1F h1r h1w
      refine wp_mid 2 (TM w W1 (fun W => F W ∧ Box W p7 (.int .i64 t) 3 ∧ ∀ D ∈ Ds, W.heap[D]? = some (.deferred (some []))) (w.heap.size + 1) p8 4 many t) ?range ?rest (fun _ _ h => h)
      case range =>
        refine (wpIn_wide (n := 0)).1 ?_
        refine wp_rangeP (gf := 36) (lb := #[]) rfl (enters_of Try.func36 (by kernel_rfl) rfl) (encs := encKd) (Rd := fun _ => False)
          (S := fun xs => xs = [1, 2, 3, 4]) (Sp := fun pre => ∃ k, k ≤ 4 ∧ pre = [1, 2, 3, 4].take k) (N := 4) (inf := false) (fun k h => by exact h.elim)
          (fun W1 _ => kinds1_seq W1) (fun x => rfl) (TI w (fun W => F W ∧ Box W p7 (.int .i64 t) 3 ∧ ∀ D ∈ Ds, W.heap[D]? = some (.deferred (some []))) (w.heap.size + 1) p8 many t) (TX 2 w (fun W => F W ∧ Box W p7 (.int .i64 t) 3 ∧ ∀ D ∈ Ds, W.heap[D]? = some (.deferred (some []))) (w.heap.size + 1) p8 many t) (ti_stable f3.out.on hM hwW) (tx_stable f3.out.on hM hwW) h00.out (fun h => by cases h) ?round ?done ?stop
        case round =>
          rintro l1 O pre x W2 hOl hO hI hlen hsp
          unfold encKd
          gi_wp2
          refine ⟨Keep.refl _ _, fun W3 hon => ?_⟩
          have hI3 := hI.only (O2 := O) f3.out.on hM hwW hon (fun k e => by have := (hO l1 hOl).1; omega)
          obtain ⟨kk, hkk, hpre⟩ := hsp
          obtain ⟨hnl, hne⟩ := pre_next hpre
          obtain ⟨n, hpn⟩ : ∃ n, n = pre.length := ⟨_, rfl⟩
          obtain ⟨hFW, b8, b0, h0x, hbw⟩ := hI3
          rw [← hpn] at b8 h0x
          have hn4 : n < 4 := by rw [hpn]; simpa using hnl
          have hxn : x = (n : Int) + 1 := by
            rw [hpn, ← hne]
            generalize hpl : pre.length = j at *
            have : j = 0 ∨ j = 1 ∨ j = 2 ∨ j = 3 := by omega
            rcases this with rfl | rfl | rfl | rfl <;> rfl
          have bm := getF.out _ hFW.1
          have cm := bm.cell
          have ct := hFW.2.1.cell
          have cn := b8.cell
          have fn := b8.free
          have hp8l : p8 < W3.heap.size := b8.lt
          have hp7l : p7 < W3.heap.size := hFW.2.1.lt
          have hw3l : w.heap.size < W3.heap.size := by omega
          have hp78 : ¬ (p8 = p7) := by have := hlt p7 (.inr (.inl rfl)); omega
          have hp28 : ¬ (p8 = w.heap.size) := by omega
          have hnxt0 := TI.next (O := O) (y := x) (n := n + 1) (⟨hFW, by rw [← hpn]; exact b8, b0, by rw [← hpn]; exact h0x, hbw⟩ : TI (α := Int) w _ (w.heap.size + 1) p8 many t O pre W3) f3.out.on (fun k hk => by have := hlt k hk; omega) (by omega) (by omega) (by omega)
          have hkp0 : Keep (fun k => O k) W3 (W3.setCell ⟨p8, 0, none⟩ (.int .i64 ((n + 1 : Nat) : Int))) := (Keep.refl _ _).setCell _ _ (by
            intro h
            have := (hO _ h).1; simp only at this; omega)
          have hal := xalloc (xrefl (W3.setCell ⟨p8, 0, none⟩ (.int .i64 ((n + 1 : Nat) : Int)))) (Obj.cells #[.string ⟨#[]⟩, .string ⟨#[67, 65, 76, 76]⟩, .string ⟨#[67, 65, 76, 76, 67, 79, 68, 69]⟩, .string ⟨#[68, 69, 76, 69, 71, 65, 84, 69, 67, 65, 76, 76]⟩, .string ⟨#[83, 84, 65, 84, 73, 67, 67, 65, 76, 76]⟩] 9)
          have hnxt : _ ∧ _ ∧ _ ∧ _ := ⟨f3.out.below hnxt0.1 hal, hnxt0.2.1.below hal, hnxt0.2.2.1.below hal, xtrans hnxt0.2.2.2 hal⟩
          have hkp := hkp0.trans (Below.keep hal)
          have hlen1 : (pre ++ [x]).length = n + 1 := by rw [hpn]; simp
          replace hnxt := Lib.hid hnxt
          have hkp2 : Keep (fun k => O k ∨ False) _ _ := hkp.mono fun k _ h => h.elim id (fun h => h.elim)
          replace hkp2 := Lib.hid hkp2
          replace hkp := Lib.hid hkp
          replace hlen1 := Lib.hid hlen1
          replace hpn := Lib.hid hpn
          replace h0x := Lib.hid h0x
          clear hne hI hon bm b8 b0 hbw hFW hpre hnl hnxt0 hkp0 hal
          have hnc : n = 0 ∨ n = 1 ∨ n = 2 ∨ n = 3 := by omega
          subst hxn
          rcases hnc with rfl | rfl | rfl | rfl
          · have ht01 : t = 0 ∨ t = 1 := by omega
            rcases ht01 with rfl | rfl
            · by_cases hmn : many ≤ 1
              · gi_wp2
                refine ⟨(by first | exact hkp.out | exact hkp2.out), rfl, rfl, hnxt.out.1, hnxt.out.2.1, hnxt.out.2.2.1, ?_, hnxt.out.2.2.2⟩
                rw [List.length_append, List.length_singleton, ← hpn.out]
                have := h0x.out trivial
                refine ⟨by omega, by omega, by omega⟩
              · gi_wp2
                refine ⟨(by first | exact hkp.out | exact hkp2.out), hnxt.out.1, hnxt.out.2.1, hnxt.out.2.2.1, fun _ => ?_, hnxt.out.2.2.2⟩
                rw [List.length_append, List.length_singleton, ← hpn.out]
                exact .inr (by omega)
            · gi_wp2
              exact ⟨(by first | exact hkp.out | exact hkp2.out), hnxt.out.1, hnxt.out.2.1, hnxt.out.2.2.1, fun h => (by cases h), hnxt.out.2.2.2⟩
          · have ht01 : t = 0 ∨ t = 1 := by omega
            rcases ht01 with rfl | rfl
            · by_cases hmn : many ≤ 2
              · gi_wp2
                refine ⟨(by first | exact hkp.out | exact hkp2.out), rfl, rfl, hnxt.out.1, hnxt.out.2.1, hnxt.out.2.2.1, ?_, hnxt.out.2.2.2⟩
                rw [List.length_append, List.length_singleton, ← hpn.out]
                have := h0x.out trivial
                refine ⟨by omega, by omega, by omega⟩
              · gi_wp2
                refine ⟨(by first | exact hkp.out | exact hkp2.out), hnxt.out.1, hnxt.out.2.1, hnxt.out.2.2.1, fun _ => ?_, hnxt.out.2.2.2⟩
                rw [List.length_append, List.length_singleton, ← hpn.out]
                exact .inr (by omega)
            · gi_wp2
              exact ⟨(by first | exact hkp.out | exact hkp2.out), hnxt.out.1, hnxt.out.2.1, hnxt.out.2.2.1, fun h => (by cases h), hnxt.out.2.2.2⟩
          · have ht01 : t = 0 ∨ t = 1 := by omega
            rcases ht01 with rfl | rfl
            · by_cases hmn : many ≤ 3
              · gi_wp2
                refine ⟨(by first | exact hkp.out | exact hkp2.out), rfl, rfl, hnxt.out.1, hnxt.out.2.1, hnxt.out.2.2.1, ?_, hnxt.out.2.2.2⟩
                rw [List.length_append, List.length_singleton, ← hpn.out]
                have := h0x.out trivial
                refine ⟨by omega, by omega, by omega⟩
              · gi_wp2
                refine ⟨(by first | exact hkp.out | exact hkp2.out), hnxt.out.1, hnxt.out.2.1, hnxt.out.2.2.1, fun _ => ?_, hnxt.out.2.2.2⟩
                rw [List.length_append, List.length_singleton, ← hpn.out]
                exact .inr (by omega)
            · gi_wp2
              exact ⟨(by first | exact hkp.out | exact hkp2.out), hnxt.out.1, hnxt.out.2.1, hnxt.out.2.2.1, fun h => (by cases h), hnxt.out.2.2.2⟩
          · have ht01 : t = 0 ∨ t = 1 := by omega
            rcases ht01 with rfl | rfl
            · by_cases hmn : many ≤ 4
              · gi_wp2
                refine ⟨(by first | exact hkp.out | exact hkp2.out), rfl, rfl, hnxt.out.1, hnxt.out.2.1, hnxt.out.2.2.1, ?_, hnxt.out.2.2.2⟩
                rw [List.length_append, List.length_singleton, ← hpn.out]
                have := h0x.out trivial
                refine ⟨by omega, by omega, by omega⟩
              · gi_wp2
                refine ⟨(by first | exact hkp.out | exact hkp2.out), hnxt.out.1, hnxt.out.2.1, hnxt.out.2.2.1, fun _ => ?_, hnxt.out.2.2.2⟩
                rw [List.length_append, List.length_singleton, ← hpn.out]
                exact .inr (by omega)
            · gi_wp2
              exact ⟨(by first | exact hkp.out | exact hkp2.out), hnxt.out.1, hnxt.out.2.1, hnxt.out.2.2.1, fun h => (by cases h), hnxt.out.2.2.2⟩
        case done =>
          rintro D xs O W2 hD hOD hO rfl ⟨h1, h2, h3, h4, h5⟩ hK
          
          exact ⟨.inl rfl, D, rfl, hD, hK, _, fun e => two_first (.inl ⟨rfl, h4 e⟩), fun _ => rfl, h1, h2, h3, h5⟩
        case stop =>
          rintro D c pre O W2 hD hOD hO ⟨k, hk, hpre⟩ ⟨rfl, ht0, h1, h2, h3, h4, h5⟩ hK
          have hpl : pre.length ≤ 4 := by rw [hpre, List.length_take]; simp; omega
          subst ht0
          gi_wp2
          exact ⟨D, rfl, hD, hK, pre.length, fun _ => two_first (.inr ⟨hpl, h4⟩), fun e => by omega, h1, h2, h3, h5⟩
      case rest =>
        rintro _ W6 ⟨D, rfl, hD, hK, n, hn0, hn1, ⟨hFW, b7, hDs⟩, b8, br, hbW⟩
        have ct := b7.cell
        have cn := b8.cell
        have bm := getF.out _ hFW
        have bp := bm
        have cm := bm.cell
        have hnd2 : (D :: Ds).Nodup := List.nodup_cons.2 ⟨fun h => by have := hlt D (.inr (.inr h)); omega, hnd⟩
        have hge2 : Hid (∀ D' ∈ D :: Ds, w.heap.size ≤ D') := Lib.hid fun D' h => by
          rcases List.mem_cons.1 h with rfl | h
          · omega
          · exact hge.out D' h
        have hD2 : ∀ D' ∈ D :: Ds, W6.heap[D']? = some (.deferred (some [])) := fun D' h => by
          rcases List.mem_cons.1 h with rfl | h
          · exact hK
          · exact hDs D' h
        have hdl2 : (D :: Ds).length = t + 1 := by rw [List.length_cons, hDl.out]
        have h67 := xalloc (xrefl W6) (Obj.cells #[Value.int .i64 ((t + 1 : Nat) : Int)] 3)
        have e1 := fF.out.below hFW h67
        have e2 := (Fac.marks (D :: Ds)).below hD2 h67
        have e3 := Box.new W6 (.int .i64 ((t + 1 : Nat) : Int)) 3
        have e4 := br.below h67
        have e5 : ¬ (S W6.heap.size ∨ W6.heap.size ∈ D :: Ds ∨ W6.heap.size = w.heap.size + 1) := by
          rintro (h | h | h)
          · have := fF.out.lt _ hFW _ h; omega
          · have := (Array.getElem?_eq_some_iff.1 (hD2 _ h)).1; omega
          · have := br.lt; omega
        have e6 := xtrans hbW h67
        replace hnd2 := Lib.hid hnd2
        replace hdl2 := Lib.hid hdl2
        replace e1 := Lib.hid e1
        replace e2 := Lib.hid e2
        replace e3 := Lib.hid e3
        replace e4 := Lib.hid e4
        replace e5 := Lib.hid e5
        replace e6 := Lib.hid e6
        clear hnd h67 hD2 hK hDs hFW b7 b8 br hbW bm bp
        have ht01 : t = 0 ∨ t = 1 := by omega
        have fin : ∀ ac W7, ac = { tmps := #[.int .i64 many, .pointer (some ⟨w.heap.size, 0, none⟩), .pointer (some ⟨w.heap.size + 1, 0, none⟩), .func (.func 36) #[] #[], .pointer (some ⟨W6.heap.size, 0, none⟩), ac.tmps.getD 5 undef, ac.tmps.getD 6 undef, ac.tmps.getD 7 undef, .func (.func 36) #[] #[], .func (.func 36) #[] #[], .bool false, ac.tmps.getD 11 undef, ac.tmps.getD 12 undef, ac.tmps.getD 13 undef, ac.tmps.getD 14 undef, ac.tmps.getD 15 undef, ac.tmps.getD 16 undef, ac.tmps.getD 17 undef, ac.tmps.getD 18 undef, ac.tmps.getD 19 undef, ac.tmps.getD 20 undef, ac.tmps.getD 21 undef, ac.tmps.getD 22 undef, ac.tmps.getD 23 undef, ac.tmps.getD 24 undef, ac.tmps.getD 25 undef, ac.tmps.getD 26 undef, ac.tmps.getD 27 undef, ac.tmps.getD 28 undef, ac.tmps.getD 29 undef, ac.tmps.getD 30 undef, ac.tmps.getD 31 undef, ac.tmps.getD 32 undef, ac.tmps.getD 33 undef, ac.tmps.getD 34 undef, ac.tmps.getD 35 undef, ac.tmps.getD 36 undef, ac.tmps.getD 37 undef, ac.tmps.getD 38 undef, ac.tmps.getD 39 undef, ac.tmps.getD 40 undef, ac.tmps.getD 41 undef, ac.tmps.getD 42 undef, ac.tmps.getD 43 undef, ac.tmps.getD 44 undef, ac.tmps.getD 45 undef, ac.tmps.getD 46 undef, ac.tmps.getD 47 undef, ac.tmps.getD 48 undef, ac.tmps.getD 49 undef, ac.tmps.getD 50 undef, ac.tmps.getD 51 undef, ac.tmps.getD 52 undef, ac.tmps.getD 53 undef, ac.tmps.getD 54 undef, ac.tmps.getD 55 undef, ac.tmps.getD 56 undef, ac.tmps.getD 57 undef, ac.tmps.getD 58 undef, ac.tmps.getD 59 undef, undef], defers := (D :: Ds).map fun D => { target := .collected D, args := #[] } } → W6.alloc (Obj.cells #[Value.int .i64 ((t + 1 : Nat) : Int)] 3) = W7 → Handed J gk ac W7 := by
          rintro ac W7 hac rfl
          refine Handed.intro (gk - 1) (by omega) (hJ.out _ _ _ ⟨t + 1, W6.heap.size, D :: Ds, fun k => ac.tmps.getD k undef, hac, by omega, hdl2.out, ⟨hnd2.out, hge2.out⟩, e1.out, e2.out, e3.out, e4.out, e5.out, e6.out⟩)
        replace fin := Lib.hid fin
        dsimp only
        rcases ht01 with rfl | rfl
        · have hne := hn0 rfl
          have hne2 : (n : Int) = smallF (4 : Int) (bigF 1 many) := (two_small hne).1
          have hne3 : (n : Int) = min (4 : Int) (max 1 many) := (two_small hne).2
          clear hn0 hn1
          go_wp2
          exact fin.out _ _ rfl rfl
        · obtain rfl := hn1 rfl
          clear hn0 hn1
          go_wp2
          exact fin.out _ _ rfl rfl
    · obtain rfl : t = 2 := by omega
      obtain ⟨D2, D1, rfl⟩ : ∃ D2 D1, Ds = [D2, D1] := by
        match Ds, hDl.out with
        | [a, b], _ => exact ⟨a, b, rfl⟩
      have hb2w := hbW.out.size
      clear ht
      go_wp2_with (go_at_call 13; refine (works_any _).mono ?_; rintro e W8 ⟨rfl, hb8⟩; have br8 := br.out.below hb8; have cr := br8.cell; have fr := br8.free; have hD8 := (Fac.marks [D2, D1]).below hDs.out hb8; replace br8 := Lib.hid br8; replace hD8 := Lib.hid hD8)
      have hbE : Below w.heap.size w (W8.setCell ⟨w.heap.size + 1, 0, none⟩ (.bool true)) := (xtrans hbW.out hb8).setCell (by simp only; omega) _
      have hne : ∀ D ∈ [D2, D1], D ≠ w.heap.size + 1 := fun D h e => by
        have h1 := hD8.out D h
        have h2 := br8.out
        unfold Box at h2
        rw [e, h2] at h1
        cases h1
      have hE1 : (W8.setCell ⟨w.heap.size + 1, 0, none⟩ (.bool true)).heap[D1]? = some (.deferred (some [])) := (Below.heap_setCell _ ⟨w.heap.size + 1, 0, none⟩ _ D1 (hne D1 (by simp))).trans (hD8.out D1 (by simp))
      have hE2 : (W8.setCell ⟨w.heap.size + 1, 0, none⟩ (.bool true)).heap[D2]? = some (.deferred (some [])) := (Below.heap_setCell _ ⟨w.heap.size + 1, 0, none⟩ _ D2 (hne D2 (by simp))).trans (hD8.out D2 (by simp))
      have hE3 := br8.out.set (.bool true)
      generalize W8.setCell ⟨w.heap.size + 1, 0, none⟩ (.bool true) = WE at hbE hE1 hE2 hE3 ⊢
      have hn1 := hne D1 (by simp)
      have hn2 := hne D2 (by simp)
      have hnd12 : D2 ≠ D1 := by have := (List.nodup_cons.1 hnd).1; simpa using this
      have hk1 : (WE.putObj D2 (.deferred none)).heap[D1]? = some (.deferred (some [])) := (World.putObj_heap_other (by omega)).trans hE1
      have ho := ((Only.refl (fun k => k = D2 ∨ k = D1) WE).putObj D2 (.deferred none) (.inl rfl)).putObj D1 (.deferred none) (.inr rfl)
      have hg1 := hge.out D1 (by simp)
      have hg2 := hge.out D2 (by simp)
      refine ⟨by simp, .inl ⟨_, _, rfl, run_takeDeferred hE2, by simp, .inl ⟨_, _, rfl, run_takeDeferred hk1, ?_⟩⟩⟩
      exact ⟨_, results_bool rfl _ _ (w.heap.size + 1) (.bool true) rfl (hE3.only ho (by omega)).cell, rfl, ho.below hbE hbE.size (by rintro i (rfl | rfl) <;> omega)⟩
end Go.Proofs.Ytioihjgobmbanaa
