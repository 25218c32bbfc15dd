/- Texts of this claim, merged; no condition. -/
import Derived.Test.YtijkdabmegbcjaaGreatDoorT38
import Derived.Test.YtijkdabmegbcjaaGreatDoorTA
set_option linter.all false
namespace Go.Proofs.YtijkdabmegbcjaaGreatDoor
section
open Go.RowKit Go.Shelf
section
variable {bs : List BlkN} {D : Nat}
theorem Graph.find (g : Graph bs D) {B : BlkN} (hB : B ∈ bs) : findB bs B.first = some B := by
  unfold findB
  cases h : bs.find? (fun b => decide (b.first = B.first)) with
  | none => exact absurd (List.find?_eq_none.1 h B hB) (by simp)
  | some x =>
    have h1 := List.mem_of_find?_eq_some h
    have h2 := List.find?_some h
    rw [nodup_inj (f := BlkN.first) g.nodup h1 hB (by simpa using h2)]
theorem Graph.nextB (g : Graph bs D) {B : BlkN} (hB : B ∈ bs) : Go.Proofs.YtijkdabmegbcjaaGreatDoor.nextOf bs B.first = B.next := by unfold Go.Proofs.YtijkdabmegbcjaaGreatDoor.nextOf; rw [g.find hB]
theorem Graph.exitB (g : Graph bs D) {B : BlkN} (hB : B ∈ bs) : exitOf bs B.first = B.exit := by unfold exitOf; rw [g.find hB]
theorem more_mono {K K' : List Nat} (h : ∀ x ∈ K, x ∈ K') {B : BlkN} (hm : moreP K B = true) : moreP K' B = true := by
  unfold moreP someIn at *
  rw [Bool.or_eq_true, List.any_eq_true] at *
  rcases hm with hm | ⟨x, hx, hk⟩
  · exact .inl hm
  · exact .inr ⟨x, hx, decide_eq_true (h x (of_decide_eq_true hk))⟩
theorem more_ends (g : Graph bs D) {K : List Nat} (h : ∀ k ∈ K, Ends (Go.Proofs.YtijkdabmegbcjaaGreatDoor.nextOf bs) (exitOf bs) k) {B : BlkN} (hB : B ∈ bs) (hm : moreP K B = true) : Ends (Go.Proofs.YtijkdabmegbcjaaGreatDoor.nextOf bs) (exitOf bs) B.first := by
  unfold moreP someIn at hm
  rw [Bool.or_eq_true, List.any_eq_true] at hm
  rw [ends_fix, g.nextB hB, g.exitB hB]
  rcases hm with hm | ⟨x, hx, hk⟩
  · exact .inl hm
  · exact .inr ⟨x, hx, h x (of_decide_eq_true hk)⟩
theorem ends_key (g : Graph bs D) {k : Nat} (h : Ends (Go.Proofs.YtijkdabmegbcjaaGreatDoor.nextOf bs) (exitOf bs) k) : k ∈ keysB bs := behind_key g ((exits_ends g).2 h)
theorem closed_all (g : Graph bs D) {K : List Nat} (h : ∀ B ∈ bs, moreP K B = true → B.first ∈ K) {k : Nat} (hk : Ends (Go.Proofs.YtijkdabmegbcjaaGreatDoor.nextOf bs) (exitOf bs) k) : k ∈ K := by
  refine ends_in (S := fun k => k ∈ K) (D := fun k => k ∈ keysB bs) (fun k _ j hj => g.nextOf hj) (fun k hk hx => ?_) (ends_key g hk) hk
  obtain ⟨B, hB, rfl⟩ := List.mem_map.1 hk
  refine h B hB ?_
  rw [g.nextB hB, g.exitB hB] at hx
  unfold moreP someIn
  rw [Bool.or_eq_true, List.any_eq_true]
  rcases hx with hx | ⟨j, hj, hS⟩
  · exact .inl hx
  · exact .inr ⟨j, hj, decide_eq_true hS⟩
theorem SetAt.nd {w : World} {b : Nat} {K : List Nat} (h : SetAt w b K) : K.Nodup := by
  obtain ⟨E, clk, -, h2⟩ := h
  exact h2.nd
theorem sub_back {K K0 : List Nat} (hn : K0.Nodup) (hK : K.Nodup) (h : ∀ x ∈ K0, x ∈ K) (hl : K0.length = K.length) : ∀ x ∈ K, x ∈ K0 := fun x hx => by
  by_cases e : x ∈ K0
  · exact e
  · have := (List.nodup_cons.2 ⟨e, hn⟩).length_le_of_subset (l₂ := K) fun y hy => by
      rcases List.mem_cons.1 hy with rfl | hy
      · exact hx
      · exact h y hy
    simp at this
    omega
end
set_option maxRecDepth 100000 in
set_option maxHeartbeats 8000000 in
theorem ending_any (bs : List BlkN) (D : Nat) (g : Graph bs D) (mb lo : Nat) (w : World) (hM : MapB lo w mb bs) (hl : bs.length ≤ 200) (hn : ∀ B ∈ bs, B.next.length ≤ 1000) :
    Calls Tryz.prog 88 #[.map (some mb)] w fun e w' => (∃ mo K, e = .returned (.map (some mo)) ∧ SetAt w' mo K ∧ (∀ k, k ∈ K ↔ Ends (nextOf bs) (exitOf bs) k) ∧ w.heap.size ≤ mo) ∧ Below w.heap.size w w' := by
  obtain ⟨l, hml, hll, hls⟩ := hM
  have hmbl := (Array.getElem?_eq_some_iff.1 hml).1
  have hb1 : Hid (Below w.heap.size w ((w.alloc (mapI .i64 [])).alloc (.cells #[.map (some w.heap.size)] 132))) := qh (xalloc (xalloc (xrefl w) _) _)
  have hS1 : Hid (SetAt ((w.alloc (mapI .i64 [])).alloc (.cells #[.map (some w.heap.size)] 132)) w.heap.size []) := qh ((SetAt.new w).below (xalloc (xrefl _) _))
  have hX1 : Hid (Box ((w.alloc (mapI .i64 [])).alloc (.cells #[.map (some w.heap.size)] 132)) (w.heap.size + 1) (.map (some w.heap.size)) 132) := qh (by have := Box.new (w.alloc (mapI .i64 [])) (.map (some w.heap.size)) 132; rwa [World.size_alloc] at this)
  have hs1 : w.heap.size + 2 ≤ ((w.alloc (mapI .i64 [])).alloc (.cells #[.map (some w.heap.size)] 132)).heap.size := by simp
  have hval : Hid (∀ j (hj : j < l.length) (hjb : j < bs.length), ∃ p q, l[j] = (((bs[j]'hjb).first : Int), blkV p q (bs[j]'hjb)) ∧ IntsAt w p q (bs[j]'hjb).next) := qh fun j hj hjb => by
    obtain ⟨p, q, e, hI, -⟩ := hls j hjb
    rw [List.getElem?_eq_getElem hj] at e
    exact ⟨p, q, Option.some.inj e, hI⟩
  have hl1 : l.length ≤ bs.length := by omega
  have hl2 : bs.length ≤ l.length := by omega
  replace hml := qh hml
  replace hn := qh hn
  clear hls hll
  go_enter Tryz.func88, Tryz.ntmps88
  go_wp2_with (refine wpList_mk rfl 132 rfl ?_)
  generalize (w.alloc (mapI .i64 [])).alloc (.cells #[.map (some w.heap.size)] 132) = w1 at *
  go_loopw [5] (fun wv wx => ∃ (was : Int) (K : List Nat), wv = .int .i64 was ∧ -1 ≤ was ∧ was ≤ K.length ∧ K.length ≤ bs.length ∧ Hid (SetAt wx w.heap.size K) ∧ Hid (Box wx (w.heap.size + 1) (.map (some w.heap.size)) 132) ∧ Hid (Below w.heap.size w wx) ∧ Hid (∀ k ∈ K, Ends (nextOf bs) (exitOf bs) k) ∧
    Hid (was = -1 ∨ ∃ K0 : List Nat, K0.Nodup ∧ (∀ x ∈ K0, x ∈ K) ∧ (∀ B ∈ bs, moreP K0 B = true → B.first ∈ K) ∧ was = K0.length)) (fun wv _ => ((bs.length : Int) + 1 - intOf wv).toNat)
  case atStart => exact ⟨-1, [], rfl, by omega, by simp, by simp, hS1, hX1, hb1, qh (by simp), qh (.inl rfl)⟩
  case round =>
    clear hS1 hX1 hb1 hs1
    obtain ⟨was, K, rfl, hw1, hw2, hKl, hS, hX, hb, hso, hst⟩ := hrel
    have cx := hX.out.cell
    by_cases hgo : was < (K.length : Int)
    · have hmr := (hb.out.block mb hmbl).trans hml.out
      have hrg := range_mapI (P := Tryz.prog) (t := 96) Tryz.underlying96 hmr
      have hb9 : Below wr.heap.size wr (wr.alloc (itO mb l.length [])) := xalloc (xrefl wr) _
      obtain ⟨it, hit⟩ : ∃ it, it = wr.heap.size := ⟨_, rfl⟩
      have hi9 : (wr.alloc (itO mb l.length [])).heap[it]? = some (itO mb l.length []) := by rw [hit]; exact World.alloc_heap_new wr _
      have hS9 := hS.out.below hb9
      have hX9 := hX.out.below hb9
      have hbw9 := xtrans hb.out hb9
      have hlt9 := hS.out.lt
      have hltx := hX.out.lt
      have hlb := hb.out.size
      have hs9 : (wr.alloc (itO mb l.length [])).heap.size = wr.heap.size + 1 := World.size_alloc _ _
      have hKn := qh hS.out.nd
      go_wp2_with (refine wpList_exec rfl (.int .i64 K.length) (exec_lenS 132 3 4 _ rfl Tryz.underlying132 w.heap.size K rfl hS.out) ?_)
      rw [← hit]
      generalize wr.alloc (itO mb l.length []) = w9 at *
      have hit1 : wr.heap.size ≤ it := by omega
      have hit2 : it < w9.heap.size := by omega
      replace hit := qh hit
      replace hi9 := qh hi9
      replace hS9 := qh hS9
      replace hX9 := qh hX9
      replace hbw9 := qh hbw9
      clear hrg hb9 hmr hs9
      go_loopw [6] (fun _ wx => ∃ (sn K2 : List Nat), K2.length ≤ bs.length ∧ K.length ≤ K2.length ∧ Hid (sn.Nodup ∧ ∀ j ∈ sn, j < l.length) ∧ Hid (wx.heap[it]? = some (itO mb l.length sn)) ∧ Hid (SetAt wx w.heap.size K2) ∧ Hid (∀ x ∈ K, x ∈ K2) ∧ Hid (∀ k ∈ K2, Ends (nextOf bs) (exitOf bs) k) ∧ Hid (∀ j ∈ sn, ∀ hj : j < bs.length, moreP K bs[j] = true → bs[j].first ∈ K2) ∧ Hid (Only (fun k => k = it ∨ k = w.heap.size) w9 wx)) (fun _ wx => l.length - seenAt wx it)
      case atStart => exact ⟨[], K, hKl, Nat.le_refl _, qh ⟨List.nodup_nil, by simp⟩, hi9, hS9, qh (fun _ h => h), hso, qh (by simp), qh (Only.refl _ _)⟩
      case round =>
        clear hi9 hS9
        obtain ⟨sn, K2, hK2, hKK, hsn, hi, hS2, hsub, hso2, hdn, hon⟩ := hrel
        have hle9 := hon.out.size
        have hbw := qh (hon.out.below hbw9.out hbw9.out.size (by rintro k (rfl | rfl) <;> omega))
        have hmr : wr.heap[mb]? = some (mapI .i64 l) := (hbw.out.block mb hmbl).trans hml.out
        rcases next_mapI (P := Tryz.prog) 0 hi.out hmr with ⟨hall, hrun⟩ | ⟨j, hj, hns, W2, hrun, hon2, hi2⟩
        · have hrun' : ∀ ty, (Instr.next (.pointer (some ⟨it, 0, none⟩)) false ty).run Tryz.prog wr = _ := fun ty => hrun
          have hfin : Hid (∀ B ∈ bs, moreP K B = true → B.first ∈ K2) := qh fun B hB hm => by
            obtain ⟨j, hj, rfl⟩ := List.getElem_of_mem hB
            exact hdn.out j (hall j (by omega)) hj hm
          have hX2 := qh (hX9.out.only hon.out (by omega))
          replace hmr := qh hmr
          clear hrun hall hdn
          go_wp2
          exact ⟨⟨K.length, K2, rfl, by omega, by omega, hK2, hS2, hX2, hbw, hso2, qh (.inr ⟨K, hKn.out, hsub.out, hfin.out, rfl⟩)⟩, by simp [intOf]; omega⟩
        · have hrun' : ∀ ty, (Instr.next (.pointer (some ⟨it, 0, none⟩)) false ty).run Tryz.prog wr = _ := fun ty => hrun
          have hm2 : W2.heap[mb]? = some (mapI .i64 l) := (hon2.same mb (Array.getElem?_eq_some_iff.1 hmr).1 (by omega)).trans hmr
          have hen := entry_mapI (P := Tryz.prog) hj hi2 hm2
          have hjb : j < bs.length := by omega
          obtain ⟨p, q, hlj, hI⟩ := hval.out j hj hjb
          have hB : bs[j] ∈ bs := List.getElem_mem hjb
          have hnB := hn.out _ hB
          rw [hlj] at hrun' hen
          have hslt := seen_lt hsn.out.1 hsn.out.2 hj hns
          have hsl : seenAt wr it = sn.length := seenAt_eq hi.out
          have hsn3 : Hid ((sn ++ [j]).Nodup ∧ ∀ i ∈ sn ++ [j], i < l.length) := qh ⟨by rw [List.nodup_append]; exact ⟨hsn.out.1, by simp, fun a ha b hb e => hns (by simp at hb; subst hb; rw [← e]; exact ha)⟩, fun i hi => by
            rcases List.mem_append.1 hi with h | h
            · exact hsn.out.2 i h
            · simp at h; omega⟩
          have hon3 : Only (fun k => k = it ∨ k = w.heap.size) w9 W2 := hon.out.trans (hon2.mono fun _ _ e => .inl e)
          have hbW := hon3.below hbw9.out hbw9.out.size (by rintro k (rfl | rfl) <;> omega)
          have hSW := hS2.out.only hon2 (by omega)
          have hXW := hX9.out.only hon3 (by omega)
          have hIW := hI.below hbW
          have hlt2 := hon2.size
          have hdn2 : Hid (∀ K3 : List Nat, (∀ x ∈ K2, x ∈ K3) → (moreP K2 bs[j] = true → bs[j].first ∈ K3) → ∀ i ∈ sn ++ [j], ∀ hi : i < bs.length, moreP K bs[i] = true → bs[i].first ∈ K3) := qh fun K3 h1 h2 i hi hib hm => by
            rcases List.mem_append.1 hi with h | h
            · exact h1 _ (hdn.out i h hib hm)
            · rw [List.mem_singleton] at h
              subst h
              exact h2 (more_mono hsub.out hm)
          have hen2 : Hid ((∀ k ∈ K2, Ends (nextOf bs) (exitOf bs) k) → moreP K2 bs[j] = true → ∀ k ∈ addK K2 bs[j].first, Ends (nextOf bs) (exitOf bs) k) := qh fun h1 h2 k hk => by
            rcases (mem_addK _ _ _).1 hk with rfl | h
            · exact more_ends g h1 hB h2
            · exact h1 k h
          generalize hBB : bs[j] = B at *
          have hbv : blkV p q B = .agg #[.int .i64 B.first, .int .i64 B.last, .slice p B.next.length q, .bool B.exit] := rfl
          rw [hbv] at hrun' hen
          clear hlj hbv hBB
          replace hSW := qh hSW
          replace hXW := qh hXW
          replace hIW := qh hIW
          replace hbW := qh hbW
          replace hon3 := qh hon3
          replace hi2 := qh hi2
          replace hsl := qh hsl
          replace hns := qh hns
          replace hm2 := qh hm2
          replace hmr := qh hmr
          clear hrun hon2 hI hB
          have hu := Tryz.underlying51
          cases hmo : moreP K2 B with
          | true =>
            replace hmo := qh hmo
            go_wp2_with (first
              | (refine wpList_store_blkG rfl 51 _ _ rfl W2.heap.size rfl 51 [.int .i64 0, .int .i64 0, .slice none 0 0, .bool false] [.int .i64 B.first, .int .i64 B.last, .slice p B.next.length q, .bool B.exit] (BlkG.new W2 _ _) rfl rfl (by kernel_rfl) rfl ?_; intro w3 hX3 ho3; have hb3 := qh (ho3.below (xalloc (xrefl W2) _) (xalloc (xrefl W2) (.cells #[.int .i64 0, .int .i64 0, .slice none 0 0, .bool false] 51)).size (by rintro k rfl; exact Nat.le_refl _)); replace hX3 := qh hX3; clear ho3; have hc := qh (more_any B K2 (w.heap.size + 1) w.heap.size p q w3 (hIW.out.below hb3.out) hnB (hXW.out.below hb3.out).cell (hSW.out.below hb3.out)))
              | (refine wpList_load_blkG rfl 51 _ rfl W2.heap.size rfl 51 [.int .i64 B.first, .int .i64 B.last, .slice p B.next.length q, .bool B.exit] _ hX3.out hu rfl (by kernel_rfl) ?_)
              | (go_at_call 117; refine hc.out.mono ?_; rintro e w4 ⟨rfl, hb4⟩; rw [hmo.out]; have hS4 := qh ((hSW.out.below hb3.out).below hb4); have cx4 := ((hXW.out.below hb3.out).below hb4).cell; have hi4 := qh ((hb4.block it (by have := hb3.out.size; have := (Array.getElem?_eq_some_iff.1 hi2.out).1; omega)).trans ((hb3.out.block it (Array.getElem?_eq_some_iff.1 hi2.out).1).trans hi2.out)); have hb34 := qh (xtrans hb3.out hb4); clear hb4)
              | (refine wpList_putS rfl 132 3 4 _ _ _ rfl Tryz.underlying132 Tryz.underlying3 w.heap.size B.first K2 rfl rfl rfl hS4.out ?_; intro w5 hS5 ho5; replace hS5 := qh hS5; replace ho5 := qh ho5))
            have hen3 := hen2.out hso2.out hmo.out
            have hl3 : (addK K2 B.first).length ≤ bs.length := by
              have h1 := hS5.out.nd.length_le_of_subset (l₂ := keysB bs) fun k hk => ends_key g (hen3 k hk)
              simpa [keysB] using h1
            have hl4 : K2.length ≤ (addK K2 B.first).length := hS2.out.nd.length_le_of_subset fun k hk => (mem_addK _ _ _).2 (.inr hk)
            have hi5 := (ho5.out.same it (Array.getElem?_eq_some_iff.1 hi4.out).1 (by omega)).trans hi4.out
            refine ⟨⟨_, _, _, _, _, _, _, _, _, _, _, _, ⟨sn ++ [j], addK K2 B.first, hl3, by omega, hsn3, qh hi5, hS5, qh (fun k hk => (mem_addK _ _ _).2 (.inr (hsub.out k hk))), qh hen3, qh (hdn2.out _ (fun k hk => (mem_addK _ _ _).2 (.inr hk)) fun _ => (mem_addK _ _ _).2 (.inl rfl)), qh ?_⟩, rfl⟩, ?_⟩
            · exact hon3.out.trans ((Below.only hb34.out).trans (ho5.out.mono fun _ _ e => .inr e))
            · rw [hsl.out, seenAt_eq hi5]; simp; omega
          | false =>
            replace hmo := qh hmo
            go_wp2_with (first
              | (refine wpList_store_blkG rfl 51 _ _ rfl W2.heap.size rfl 51 [.int .i64 0, .int .i64 0, .slice none 0 0, .bool false] [.int .i64 B.first, .int .i64 B.last, .slice p B.next.length q, .bool B.exit] (BlkG.new W2 _ _) rfl rfl (by kernel_rfl) rfl ?_; intro w3 hX3 ho3; have hb3 := qh (ho3.below (xalloc (xrefl W2) _) (xalloc (xrefl W2) (.cells #[.int .i64 0, .int .i64 0, .slice none 0 0, .bool false] 51)).size (by rintro k rfl; exact Nat.le_refl _)); replace hX3 := qh hX3; clear ho3; have hc := qh (more_any B K2 (w.heap.size + 1) w.heap.size p q w3 (hIW.out.below hb3.out) hnB (hXW.out.below hb3.out).cell (hSW.out.below hb3.out)))
              | (refine wpList_load_blkG rfl 51 _ rfl W2.heap.size rfl 51 [.int .i64 B.first, .int .i64 B.last, .slice p B.next.length q, .bool B.exit] _ hX3.out hu rfl (by kernel_rfl) ?_)
              | (go_at_call 117; refine hc.out.mono ?_; rintro e w4 ⟨rfl, hb4⟩; rw [hmo.out]; have hS4 := qh ((hSW.out.below hb3.out).below hb4); have hi4 := qh ((hb4.block it (by have := hb3.out.size; have := (Array.getElem?_eq_some_iff.1 hi2.out).1; omega)).trans ((hb3.out.block it (Array.getElem?_eq_some_iff.1 hi2.out).1).trans hi2.out)); have hb34 := qh (xtrans hb3.out hb4); clear hb4))
            refine ⟨⟨sn ++ [j], K2, hK2, hKK, hsn3, qh hi4.out, hS4, hsub, hso2, qh (hdn2.out _ (fun k hk => hk) fun h => absurd h (by rw [hmo.out]; simp)), qh ?_⟩, ?_⟩
            · exact hon3.out.trans (Below.only hb34.out)
            · rw [hsl.out, seenAt_eq hi4.out]; simp; omega
    · have he : was = K.length := by omega
      have hcl : ∀ B ∈ bs, moreP K B = true → B.first ∈ K := by
        rcases hst.out with h | ⟨K0, n0, s0, c0, l0⟩
        · omega
        · intro B hB hm
          exact c0 B hB (more_mono (sub_back n0 hS.out.nd s0 (by omega)) hm)
      have hiff : Hid (∀ k, k ∈ K ↔ Ends (nextOf bs) (exitOf bs) k) := qh fun k => ⟨hso.out k, closed_all g hcl⟩
      subst he
      clear hcl hst hgo
      go_wp2_with (refine wpList_exec rfl (.int .i64 K.length) (exec_lenS 132 3 4 _ rfl Tryz.underlying132 w.heap.size K rfl hS.out) ?_)
      go_ret
      exact ⟨⟨_, K, rfl, hS.out, hiff.out, Nat.le_refl _⟩, hb.out⟩
end
section
open Go.RowKit Go.Shelf
def BehAt (lo : Nat) (w : World) (h : Nat) (F : Nat → Option (List Nat)) : Prop := ∃ E clk, w.heap[h]? = some (mapQ .i64 E clk) ∧ (E.map (·.1)).Nodup ∧ (∀ e ∈ E, 0 ≤ e.1) ∧
  ∀ k : Nat, (F k = none → valQ (k : Int) E = none) ∧ ∀ K, F k = some K → ∃ b, valQ (k : Int) E = some (.map (some b)) ∧ b ≠ h ∧ lo ≤ b ∧ SetAt w b K
def setF (F : Nat → Option (List Nat)) (k : Nat) (K : List Nat) : Nat → Option (List Nat) := fun j => if j = k then some K else F j
theorem BehAt.below {lo : Nat} {w w' : World} {h : Nat} {F : Nat → Option (List Nat)} (hB : BehAt lo w h F) (hb : Below w.heap.size w w') : BehAt lo w' h F := by
  obtain ⟨E, clk, h1, h2, hp, h3⟩ := hB
  refine ⟨E, clk, (hb.block h (Array.getElem?_eq_some_iff.1 h1).1).trans h1, h2, hp, fun k => ⟨(h3 k).1, fun K hK => ?_⟩⟩
  obtain ⟨b, e, hn, hlo, hS⟩ := (h3 k).2 K hK
  exact ⟨b, e, hn, hlo, hS.below hb⟩
theorem valQ_add {n m : Int} {v : Value} {c : Nat} {E : List (Int × Value × Nat)} (hn : ∀ e ∈ E, e.1 ≠ n) : valQ m (E ++ [(n, v, c)]) = if m = n then some v else valQ m E := by
  unfold valQ
  rw [List.find?_append]
  by_cases e : m = n
  · subst e
    rw [if_pos rfl, List.find?_eq_none.2 (fun x hx => by simpa using hn x hx)]
    simp
  · rw [if_neg e]
    have : ((n, v, c) :: ([] : List (Int × Value × Nat))).find? (fun e => e.1 == m) = none := by simp; exact fun h => e h.symm
    rw [this, Option.or_none]
theorem valQ_set {n m : Int} {v : Value} : ∀ {E : List (Int × Value × Nat)} {d c : Nat} (hd : d < E.length), E[d].1 = n → (∀ i (hi : i < d), (E[i]'(by omega)).1 ≠ n) → valQ m (E.set d (n, v, c)) = if m = n then some v else valQ m E
  | x :: E, 0, c, hd, h1, h2 => by
    unfold valQ
    simp only [List.set_cons_zero, List.find?_cons, List.getElem_cons_zero] at *
    subst h1
    by_cases e : m = x.1
    · subst e; simp
    · rw [if_neg e]
      have h : (x.1 == m) = false := by simp; exact fun h => e h.symm
      rw [h]
  | x :: E, d + 1, c, hd, h1, h2 => by
    have ih := valQ_set (m := m) (v := v) (E := E) (d := d) (c := c) (by simpa using hd) (by simpa using h1) fun i hi => by simpa using h2 (i + 1) (by omega)
    unfold valQ at *
    simp only [List.set_cons_succ, List.find?_cons]
    have hx := h2 0 (by omega)
    simp only [List.getElem_cons_zero] at hx
    by_cases e : x.1 = m
    · subst e; simp [hx]
    · have h : (x.1 == m) = false := by simpa using e
      rw [h]; exact ih
section
variable {P : Program} {t k e : TypeId} {w : World} {lo b : Nat} {F : Nat → Option (List Nat)}
theorem BehAt.lt (h : BehAt lo w b F) : b < w.heap.size := by
  obtain ⟨E, clk, h1, -⟩ := h
  exact (Array.getElem?_eq_some_iff.1 h1).1
theorem BehAt.look (h : BehAt lo w b F) (ht : P.underlying t = some (.map k e)) (hk : P.underlying k = some (.int .i64)) (hz : ∀ w, (zeroValue e).run P w = .ok (.map none) w) (n : Nat) {K : List Nat} (hF : F n = some K) :
    ∃ c, (Instr.lookup t (.map (some b)) (.int .i64 n) false).run P w = .ok (.map (some c)) w ∧ c ≠ b ∧ SetAt w c K := by
  obtain ⟨E, clk, h1, -, -, h3⟩ := h
  obtain ⟨c, e, hn, -, hS⟩ := (h3 n).2 K hF
  exact ⟨c, by rw [run_lookQ ht hk hz _ _ h1, if_neg (by decide), e]; rfl, hn, hS⟩
theorem BehAt.look0 (h : BehAt lo w b F) (ht : P.underlying t = some (.map k e)) (hk : P.underlying k = some (.int .i64)) (hz : ∀ w, (zeroValue e).run P w = .ok (.map none) w) (n : Nat) (hF : F n = none) :
    (Instr.lookup t (.map (some b)) (.int .i64 n) false).run P w = .ok (.map none) w := by
  obtain ⟨E, clk, h1, -, -, h3⟩ := h
  rw [run_lookQ ht hk hz _ _ h1, if_neg (by decide), (h3 n).1 hF]; rfl
theorem BehAt.lookN (h : BehAt lo w b F) (ht : P.underlying t = some (.map k e)) (hk : P.underlying k = some (.int .i64)) (hz : ∀ w, (zeroValue e).run P w = .ok (.map none) w) (n : Int) (hn : n < 0) :
    (Instr.lookup t (.map (some b)) (.int .i64 n) false).run P w = .ok (.map none) w := by
  obtain ⟨E, clk, h1, -, hp, -⟩ := h
  rw [run_lookQ ht hk hz _ _ h1, if_neg (by decide), valQ_none fun e he h => by have := hp e he; omega]; rfl
theorem BehAt.put (h : BehAt lo w b F) (ht : P.underlying t = some (.map k e)) (hk : P.underlying k = some (.int .i64)) (n c : Nat) (K : List Nat) (hc : SetAt w c K) (hcb : c ≠ b) (hlo : lo ≤ c) :
    ∃ w', (Instr.mapUpdate t (.map (some b)) (.int .i64 n) (.map (some c))).run P w = .ok () w' ∧ BehAt lo w' b (setF F n K) ∧ Only (· = b) w w' := by
  have hb := h.lt
  obtain ⟨E, clk, h1, h2, hp, h3⟩ := h
  have fin : ∀ E' clk', (E'.map (·.1)).Nodup → (∀ e ∈ E', 0 ≤ e.1) → (∀ m : Nat, valQ (m : Int) E' = if (m : Int) = (n : Int) then some (.map (some c)) else valQ (m : Int) E) → BehAt lo (w.putObj b (mapQ .i64 E' clk')) b (setF F n K) := fun E' clk' hnd hp' hv => by
    have ho : Only (· = b) w (w.putObj b (mapQ .i64 E' clk')) := (Only.refl _ _).putObj b _ rfl
    refine ⟨E', clk', World.putObj_heap_same hb, hnd, hp', fun m => ⟨fun hm => ?_, fun K' hm => ?_⟩⟩
    · unfold setF at hm
      by_cases e : m = n
      · rw [if_pos e] at hm; cases hm
      · rw [if_neg e] at hm
        rw [hv, if_neg (by omega)]
        exact (h3 m).1 hm
    · unfold setF at hm
      by_cases e : m = n
      · rw [if_pos e] at hm; cases hm
        exact ⟨c, by rw [hv, if_pos (by omega)], hcb, hlo, hc.only ho hcb⟩
      · rw [if_neg e] at hm
        obtain ⟨x, e1, e2, hlx, e3⟩ := (h3 m).2 K' hm
        exact ⟨x, by rw [hv, if_neg (by omega)]; exact e1, e2, hlx, e3.only ho e2⟩
  obtain ⟨r, hr1, hr2⟩ := findNow_Q .i64 (n : Int) E 0
  rcases hr2 with ⟨-, h4⟩ | ⟨d, hd, -, h4, h5⟩
  · refine ⟨_, run_putQ_new ht hk _ _ h1 h4, fin _ _ ?_ (fun e he => ?_) (fun m => valQ_add h4), (Only.refl _ _).putObj b _ rfl⟩
    · rw [List.map_append, List.nodup_append]
      refine ⟨h2, by simp, fun x hx y hy e => ?_⟩
      obtain ⟨z, hz, rfl⟩ := List.mem_map.1 hx
      simp at hy
      exact h4 z hz (e.trans hy)
    · rcases List.mem_append.1 he with he | he
      · exact hp e he
      · rw [List.mem_singleton] at he; rw [he]; exact Int.natCast_nonneg n
  · refine ⟨_, run_putQ_old ht hk _ _ h1 hd h4 h5, fin _ _ ?_ (fun e he => ?_) (fun m => valQ_set hd h4 h5), (Only.refl _ _).putObj b _ rfl⟩
    · have : (E.set d ((n : Int), Value.map (some c), E[d].2.2)).map (·.1) = E.map (·.1) := by
        rw [List.map_set]
        have : (n : Int) = (E.map (·.1))[d]'(by simpa using hd) := by rw [List.getElem_map]; exact h4.symm
        show (E.map (·.1)).set d (n : Int) = _
        rw [this, List.set_getElem_self]
      rw [this]; exact h2
    · rcases List.mem_or_eq_of_mem_set he with he | he
      · exact hp e he
      · rw [he]; exact Int.natCast_nonneg n
end
section
variable {P : Program} {o : Oper} {a : Act} {w : World} {ops : Array Oper} {rest : List Oper} {Q : Exit → Act → World → Prop}
theorem wpList_putB (hgd : o.guard = none) (t k e : TypeId) (x y z : Operand) (ho : o.op = .mapUpdate t x y z) (ht : P.underlying t = some (.map k e)) (hk : P.underlying k = some (.int .i64)) (b n c : Nat) (F : Nat → Option (List Nat)) (K : List Nat) (hx : a.eval x = .map (some b)) (hy : a.eval y = .int .i64 n) (hz : a.eval z = .map (some c)) {lo : Nat} (hB : BehAt lo w b F) (hc : SetAt w c K) (hcb : c ≠ b) (hlo : lo ≤ c)
    (h : ∀ w', BehAt lo w' b (setF F n K) → Only (· = b) w w' → wpList P ops Q rest (a.put o.dst undef) w') : wpList P ops Q (o :: rest) a w := by
  refine wpList_plain hgd fun _ hK => ?_
  obtain ⟨w', h1, h2, h3⟩ := hB.put ht hk n c K hc hcb hlo
  unfold Oper.wp execOp
  simp only [ho, hx, hy, hz, Sem.run_bind, h1, Result.andThen_ok, Sem.run_pure]
  exact hK _ _ (h w' h2 h3)
theorem exec_lookB0 (t k e : TypeId) (x y : Operand) (ho : o.op = .lookup t x y false) (ht : P.underlying t = some (.map k e)) (hk : P.underlying k = some (.int .i64)) (hz : ∀ w, (zeroValue e).run P w = .ok (.map none) w) (b n : Nat) (F : Nat → Option (List Nat)) (hF : F n = none)
    (hx : a.eval x = .map (some b)) (hy : a.eval y = .int .i64 n) {lo : Nat} (h : BehAt lo w b F) : (execOp a.eval o).run P w = .ok (.value (.map none)) w := by
  unfold execOp
  simp only [ho, hx, hy, Sem.run_bind, h.look0 ht hk hz n hF, Result.andThen_ok, Sem.run_pure]
theorem exec_lookBN (t k e : TypeId) (x y : Operand) (ho : o.op = .lookup t x y false) (ht : P.underlying t = some (.map k e)) (hk : P.underlying k = some (.int .i64)) (hz : ∀ w, (zeroValue e).run P w = .ok (.map none) w) (b : Nat) (n : Int) (hn : n < 0) (F : Nat → Option (List Nat))
    (hx : a.eval x = .map (some b)) (hy : a.eval y = .int .i64 n) {lo : Nat} (h : BehAt lo w b F) : (execOp a.eval o).run P w = .ok (.value (.map none)) w := by
  unfold execOp
  simp only [ho, hx, hy, Sem.run_bind, h.lookN ht hk hz n hn, Result.andThen_ok, Sem.run_pure]
end
end
end Go.Proofs.YtijkdabmegbcjaaGreatDoor
