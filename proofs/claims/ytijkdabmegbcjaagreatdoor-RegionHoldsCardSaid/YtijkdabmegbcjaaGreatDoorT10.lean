/- Texts of this claim, merged; no condition. -/
import Derived.Test.YtijkdabmegbcjaaGreatDoorT09
import Derived.Test.YtijkdabmegbcjaaGreatDoorTA
set_option linter.all false
namespace Go.Proofs.YtijkdabmegbcjaaGreatDoor
section
open Go.RowKit
@[go_sem high] theorem field_name (v0 v1 v2 v3 v4 v5 : Value) (w : World) : (Instr.field 113 (.agg #[v0, v1, v2, v3, v4, v5]) 0).run Tryz.prog w = .ok v0 w := by kernel_rfl
theorem refEnds_is (c : Nat) (w : World) (h : c = 0 ∨ c = 243 ∨ c = 253 ∨ c = 254 ∨ c = 255) : Calls Tryz.prog 79 #[.int .u8 c] w fun e w' => e = .returned (.bool true) ∧ Below w.heap.size w w' := by
  rcases h with rfl | rfl | rfl | rfl | rfl
  all_goals
    go_enter Tryz.func79, Tryz.ntmps79
    go_wp2
    go_ret
    exact ⟨rfl, xrefl _⟩
theorem refEnds_not (z : Int) (m : List UInt8) (i o g q s : Value) (w : World) (h0 : ¬ z = 0) (h1 : ¬ z = 243) (h2 : ¬ z = 253) (h3 : ¬ z = 254) (h4 : ¬ z = 255)
    (hi : Calls Tryz.prog 70 #[.int .u8 z] w fun e w' => e = .returned (.agg #[.string ⟨m.toArray⟩, i, o, g, q, s]) ∧ Below w.heap.size w w') :
    Calls Tryz.prog 79 #[.int .u8 z] w fun e w' => e = .returned (.bool m.isEmpty) ∧ Below w.heap.size w w' := by
  replace hi := qh hi
  go_enter Tryz.func79, Tryz.ntmps79
  go_wp2_with (go_at_call 70; refine hi.out.mono ?_; rintro e w1 ⟨rfl, hb1⟩)
  go_ret
  refine ⟨?_, hb1⟩
  have b0 : (z == 0) = false := by simpa using h0
  have b1 : (z == 243) = false := by simpa using h1
  have b2 : (z == 253) = false := by simpa using h2
  have b3 : (z == 254) = false := by simpa using h3
  have b4 : (z == 255) = false := by simpa using h4
  show Ending.returned (Value.bool (z == 0 || z == 243 || z == 253 || z == 254 || z == 255 || m.isEmpty)) = _
  rw [b0, b1, b2, b3, b4]
  rfl
theorem refEnds_any (c : Nat) (w : World) (hc : c < 256) : Calls Tryz.prog 79 #[.int .u8 c] w fun e w' => e = .returned (.bool (endN c)) ∧ Below w.heap.size w w' := by
  by_cases h : c = 0 ∨ c = 243 ∨ c = 253 ∨ c = 254 ∨ c = 255
  · have e : endN c = true := by rcases h with rfl | rfl | rfl | rfl | rfl <;> decide
    rw [e]
    exact refEnds_is c w h
  · have e : endN c = (infoN c).name.isEmpty := by
      rw [info_named c hc]
      simp only [not_or] at h
      unfold endN
      simp [h.1, h.2.1, h.2.2.1, h.2.2.2.1, h.2.2.2.2]
    rw [e]
    exact refEnds_not c _ _ _ _ _ _ w (by omega) (by omega) (by omega) (by omega) (by omega) (refInfo_any c w hc)
set_option maxRecDepth 100000 in
set_option maxHeartbeats 1000000 in
theorem refInts_any (l l' : List Nat) (a a' : Option Addr) (c c' : Nat) (w : World) (h : IntsAt w a c l) (h' : IntsAt w a' c' l') (hl : l.length ≤ 1000) (hl' : l'.length ≤ 1000) :
    Calls Tryz.prog 22 #[.slice a l.length c, .slice a' l'.length c'] w fun e w' => e = .returned (.bool (decide (l = l'))) ∧ ∃ k, w' = w.drewN k := by
  by_cases hn : l.length = l'.length
  · have hn2 : (l.length : Int) = (l'.length : Int) := by omega
    have hyes : Hid ((∀ j, (h : j < l.length) → l[j] = l'[j]'(by omega)) → decide (l = l') = true) := qh fun h => decide_eq_true (List.ext_getElem hn fun j h1 h2 => h j h1)
    have hno : Hid (∀ j, (h : j < l.length) → l[j] ≠ l'[j]'(by omega) → decide (l = l') = false) := qh fun j h hne => decide_eq_false (by rintro rfl; exact hne rfl)
    generalize decide (l = l') = r at *
    have hg : Hid (∀ j, (hj : j < l.length) → ∀ k, ∃ b o b' o', a = some ⟨b, o, none⟩ ∧ a' = some ⟨b', o', none⟩ ∧ (w.drewN k).cell? ⟨b, o + j, none⟩ = some (.int .i64 (l[j] : Int)) ∧ (w.drewN k).cell? ⟨b', o' + j, none⟩ = some (.int .i64 ((l'[j]'(by omega) : Nat) : Int))) := qh fun j hj k => by
      obtain ⟨b, o, e1, h1⟩ := (h.below (xdrewN (xrefl w) k)).get hj
      obtain ⟨b', o', e2, h2⟩ := (h'.below (xdrewN (xrefl w) k)).get (show j < l'.length by omega)
      exact ⟨b, o, b', o', e1, e2, h1, h2⟩
    clear h h'
    go_enter Tryz.func22, Tryz.ntmps22
    go_wp2
    go_loopw [5] (fun i wr => ∃ k m : Nat, k ≤ l.length ∧ i = .int .i64 k ∧ Hid (wr = w.drewN m) ∧ Hid (∀ j, (h : j < l.length) → j < k → l[j] = l'[j]'(by omega))) (fun i _ => l.length - (intOf i).toNat)
    case atStart => exact ⟨0, 0, by omega, rfl, qh rfl, qh fun j _ h => by omega⟩
    case round =>
      obtain ⟨k, m, hk, rfl, hw, hs⟩ := hrel
      by_cases hlt : k < l.length
      · have hlt2 : (k : Int) < l.length := by omega
        have hlt3 : (k : Int) < l'.length := by omega
        obtain ⟨b, o, b', o', rfl, rfl, c1, c2⟩ := hg.out k hlt m
        rw [← hw.out] at c1 c2
        have hn3 : Hid (∀ x : Prop, x → x) := qh fun _ h => h
        by_cases e : l[k] = l'[k]'(by omega)
        · have hs2 : Hid (∀ j, (h : j < l.length) → j < k + 1 → l[j] = l'[j]'(by omega)) := qh fun j h hj => by
            by_cases e2 : j = k
            · subst e2; exact e
            · exact hs.out j h (by omega)
          rw [← e] at c2
          generalize l[k] = y at *
          clear e
          go_wp2
          go_region
          go_wp2
          go_roundw
          case rel => exact ⟨k + 1, m + 1, by omega, rfl, qh (by rw [hw.out]; rfl), hs2⟩
          case measure => simp [intOf]; omega
        · have hr := hno.out k hlt e
          subst hr
          have e2 : ¬ (l[k] : Int) = ((l'[k]'(by omega) : Nat) : Int) := by omega
          generalize (l[k] : Int) = y at *
          generalize ((l'[k]'(by omega) : Nat) : Int) = y' at *
          clear e
          go_wp2
          go_region
          go_wp2
          go_ret
          exact ⟨rfl, m + 1, by rw [hw.out]; rfl⟩
      · obtain rfl : k = l.length := by omega
        have hr := hyes.out fun j h => hs.out j h h
        subst hr
        clear hlt
        go_wp2
        go_ret
        exact ⟨rfl, m, hw.out⟩
  · have e : decide (l = l') = false := decide_eq_false (by rintro rfl; exact hn rfl)
    rw [e]
    have hn2 : ¬ (l.length : Int) = (l'.length : Int) := by omega
    go_enter Tryz.func22, Tryz.ntmps22
    go_wp2
    go_ret
    exact ⟨rfl, 0, rfl⟩
theorem tw_take (n : Nat) (l : List Nat) : l.takeWhile (fun y => decide (y < n)) = l.take (l.takeWhile (fun y => decide (y < n))).length := by
  have h := List.takeWhile_append_dropWhile (p := fun y => decide (y < n)) (l := l)
  have e : (l.takeWhile (fun y => decide (y < n)) ++ l.dropWhile (fun y => decide (y < n))).take (l.takeWhile (fun y => decide (y < n))).length = l.takeWhile (fun y => decide (y < n)) := List.take_left
  rw [h] at e
  exact e.symm
theorem dw_drop (n : Nat) (l : List Nat) : l.dropWhile (fun y => decide (y < n)) = l.drop (l.takeWhile (fun y => decide (y < n))).length := by
  have h := List.takeWhile_append_dropWhile (p := fun y => decide (y < n)) (l := l)
  have e : (l.takeWhile (fun y => decide (y < n)) ++ l.dropWhile (fun y => decide (y < n))).drop (l.takeWhile (fun y => decide (y < n))).length = l.dropWhile (fun y => decide (y < n)) := List.drop_left
  rw [h] at e
  exact e.symm
theorem tw_facts (n : Nat) : ∀ l : List Nat, (∀ i, i < (l.takeWhile (fun y => decide (y < n))).length → ∀ h : i < l.length, l[i] < n) ∧ (∀ h : (l.takeWhile (fun y => decide (y < n))).length < l.length, n ≤ l[(l.takeWhile (fun y => decide (y < n))).length])
  | [] => by simp
  | x :: l => by
    obtain ⟨h1, h2⟩ := tw_facts n l
    by_cases e : x < n
    · have ew : (x :: l).takeWhile (fun y => decide (y < n)) = x :: l.takeWhile (fun y => decide (y < n)) := by simp [e]
      constructor
      · intro i hi h
        rw [ew] at hi
        cases i with
        | zero => exact e
        | succ i => exact h1 i (by simpa using hi) (by simpa using h)
      · intro h
        simp only [ew] at h ⊢
        simp only [List.length_cons, List.getElem_cons_succ]
        exact h2 (by simpa using h)
    · have ew : (x :: l).takeWhile (fun y => decide (y < n)) = [] := by simp [e]
      constructor
      · intro i hi; rw [ew] at hi; simp at hi
      · intro h
        simp only [ew, List.length_nil, List.getElem_cons_zero]
        omega
def withTo (l : List Nat) (n K i : Nat) : List Nat := l.take K ++ n :: ((l.drop K).take (i - K)).filter (fun y => y ≠ n)
theorem withTo_zero (l : List Nat) (n K : Nat) : withTo l n K K = l.take K ++ [n] := by unfold withTo; simp
theorem withTo_all (l : List Nat) (n : Nat) : withTo l n (l.takeWhile (fun y => decide (y < n))).length l.length = insW n l := by
  unfold withTo
  rw [insW_parts, ← tw_take, dw_drop]
  congr 3
  rw [List.take_of_length_le (by rw [List.length_drop]; omega)]
theorem withTo_step (l : List Nat) (n K i : Nat) (h : i < l.length) (hK : K ≤ i) : withTo l n K (i + 1) = withTo l n K i ++ if l[i] ≠ n then [l[i]] else [] := by
  unfold withTo
  have e : (l.drop K).take (i + 1 - K) = (l.drop K).take (i - K) ++ [l[i]] := by
    rw [show i + 1 - K = (i - K) + 1 by omega, List.take_succ_eq_append_getElem (by rw [List.length_drop]; omega), List.getElem_drop]
    simp only [show K + (i - K) = i by omega]
  rw [e, List.filter_append]
  by_cases e2 : l[i] = n
  · simp [e2]
  · simp [e2]
theorem withTo_len (l : List Nat) (n K i : Nat) : (withTo l n K i).length ≤ 2 * l.length + 1 := by
  unfold withTo
  have h1 := List.length_filter_le (fun y => decide (y ≠ n)) ((l.drop K).take (i - K))
  simp only [List.length_append, List.length_cons, List.length_take, List.length_drop] at h1 ⊢
  omega
end
section
open Go.RowKit
theorem OwnI.snoc {w w' : World} {v : Value} {l : List Nat} {x : Nat} (h : w'.ownsRow w.heap.size 3 1 v (l.length + 1) ((natI l).map (Value.int .i64) ++ [(x : Int)].map (Value.int .i64))) : OwnI w w' v (l ++ [x]) := by
  unfold OwnI
  rw [List.length_append, natI_app, List.map_append]
  exact h
set_option maxRecDepth 100000 in
set_option maxHeartbeats 2000000 in
theorem refWith_any (l : List Nat) (n : Nat) (a : Option Addr) (c : Nat) (w : World) (h : IntsAt w a c l) (hl : l.length ≤ 2097200) :
    Calls Tryz.prog 52 #[.slice a l.length c, .int .i64 n] w fun e w' => (∃ v, e = .returned v ∧ OwnI w w' v (insW n l)) ∧ Below w.heap.size w w' := by
  obtain ⟨i0, hi, hz0, hz1, hz2⟩ := info_parts info_int
  obtain ⟨f1, f2⟩ := tw_facts n l
  have hall := qh (withTo_all l n)
  have hKl : (l.takeWhile (fun y => decide (y < n))).length ≤ l.length := by
    have h := congrArg List.length (List.takeWhile_append_dropWhile (p := fun y => decide (y < n)) (l := l))
    rw [List.length_append] at h; omega
  have hcells : Hid (∀ i (hi : i < l.length) W, Below w.heap.size w W → ∃ b o, a = some ⟨b, o, none⟩ ∧ W.cell? ⟨b, o + i, none⟩ = some (.int .i64 (l[i] : Int))) := qh fun i hi W hW => (h.below hW).get hi
  clear h
  replace f1 := qh f1
  replace f2 := qh f2
  generalize (l.takeWhile (fun y => decide (y < n))).length = K at *
  go_enter Tryz.func52, Tryz.ntmps52
  go_wp2
  go_loopw [5, 6] (fun v i wx => ∃ (k : Nat), k ≤ K ∧ i = .int .i64 k ∧ Hid (OwnI w wx v (l.take k)) ∧ Hid (Below w.heap.size w wx)) (fun _ i _ => 2097400 - (intOf i).toNat)
  case atStart => exact ⟨0, by omega, rfl, qh (OwnI.nil w), qh (xrefl w)⟩
  case round =>
    obtain ⟨k, hk, rfl, hown, hb⟩ := hrel
    by_cases hlt : k < K
    · have hkl : k < l.length := by omega
      have hkI : (k : Int) < l.length := by omega
      obtain ⟨b, o, rfl, hc⟩ := hcells.out k hkl wr hb.out
      have hx := f1.out k hlt hkl
      have hxI : (l[k] : Int) < n := by omega
      have htk := qh (List.take_succ_eq_append_getElem hkl)
      have hlen : (l.take k).length ≤ 2097200 := by rw [List.length_take]; omega
      have hsb : w.heap.size ≤ (wr.alloc (.cells #[.int .i64 (l[k] : Int)] 3)).heap.size := by rw [World.size_alloc]; have := hb.out.size; omega
      generalize hpre : l.take k = pre at *
      generalize l[k] = x at *
      replace hpre := qh hpre
      go_wp2_with (at_builtin; refine wpList_append_row (wr.alloc (.cells #[.int .i64 (x : Int)] 3)) rfl _ _ 42 rfl w.heap.size 3 i0 (.int .i64 0) 8 Tryz.underlying42 hi hz0 hz1 hz2 rfl _ pre.length _ rfl (hown.out.alloc _) (some ⟨wr.heap.size, 0, none⟩) 1 .i64 [(x : Int)] rfl (by simp) (rowAt_one wr 3 (x : Int)) (by unfold maxLen; simp; omega) (by simp; omega) hsb ?_; intro v3 w3 ho3 hg3; have hb3 := (xalloc hb.out _).grown hg3 hsb (fun j hj => (hown.out.lt j hj).1); replace hb3 := qh hb3; replace ho3 := qh ho3; clear hg3)
      exact ⟨⟨k + 1, by omega, rfl, qh (by rw [htk.out]; exact OwnI.snoc ho3.out), hb3⟩, by simp [intOf]; omega⟩
    · obtain rfl : k = K := by omega
      clear hlt hk
      obtain ⟨a5, c5, rfl⟩ := own_slice hown.out
      have hw0 := withTo_zero l n k
      have hlen : (l.take k).length ≤ 2097200 := by rw [List.length_take]; omega
      have hlk : (l.take k).length = k := by rw [List.length_take]; omega
      have hsb : w.heap.size ≤ (wr.alloc (.cells #[.int .i64 (n : Int)] 3)).heap.size := by rw [World.size_alloc]; have := hb.out.size; omega
      have hout : (k = l.length ∧ ¬ (k : Int) < l.length) ∨ ∃ hkl : k < l.length, n ≤ l[k] := by
        by_cases e : k < l.length
        · exact .inr ⟨e, f2.out e⟩
        · exact .inl (by omega)
      have hstep := qh (fun i => withTo_step l n k i)
      have hwl := qh (withTo_len l n k)
      generalize hpre : l.take k = pre at *
      have hkI2 : (k : Int) ≤ l.length := by omega
      have hlkI : (pre.length : Int) = k := by omega
      replace hlk := qh hlk
      replace hw0 := qh hw0
      replace hpre := qh hpre
      rcases hout with ⟨he, heI⟩ | ⟨hkl, hge⟩
      · replace he := qh he
        go_wp2_with (at_builtin; refine wpList_append_row (wr.alloc (.cells #[.int .i64 (n : Int)] 3)) rfl _ _ 42 rfl w.heap.size 3 i0 (.int .i64 0) 8 Tryz.underlying42 hi hz0 hz1 hz2 rfl _ pre.length _ rfl (hown.out.alloc _) (some ⟨wr.heap.size, 0, none⟩) 1 .i64 [(n : Int)] rfl (by simp) (rowAt_one wr 3 (n : Int)) (by unfold maxLen; simp; omega) (by simp; omega) hsb ?_; intro v3 w3 ho3 hg3; have hb3 := (xalloc hb.out _).grown hg3 hsb (fun j hj => (hown.out.lt j hj).1); replace hb3 := qh hb3; replace ho3 := qh ho3; clear hg3)
        have hown0 : Hid (OwnI w w3 v3 (withTo l n k k)) := qh (by rw [hw0.out]; exact OwnI.snoc ho3.out)
        clear ho3 hw0 hown hb hpre
        go_loopw [5, 8] (fun v i wx => ∃ (j : Nat), k ≤ j ∧ j ≤ l.length ∧ i = .int .i64 j ∧ Hid (OwnI w wx v (withTo l n k j)) ∧ Hid (Below w.heap.size w wx)) (fun _ i _ => 2097400 - (intOf i).toNat)
        case atStart => exact ⟨k, by omega, by omega, rfl, hown0, hb3⟩
        case round =>
          clear hown0 hb3
          obtain ⟨j, hkj, hj, rfl, hown, hb⟩ := hrel
          by_cases hlt : j < l.length
          · exact absurd hlt (by omega)
          · obtain rfl : j = l.length := by omega
            have hown2 := hown.out
            rw [hall.out] at hown2
            replace hown2 := qh hown2
            clear hlt hown
            go_wp2
            go_ret
            exact ⟨⟨_, rfl, hown2.out⟩, hb.out⟩
      · have hklI : (k : Int) < l.length := by omega
        obtain ⟨b, o, rfl, hc⟩ := hcells.out k hkl wr hb.out
        have hgeI : ¬ (l[k] : Int) < n := by omega
        generalize (l[k] : Int) = z at *
        go_wp2_with (at_builtin; refine wpList_append_row (wr.alloc (.cells #[.int .i64 (n : Int)] 3)) rfl _ _ 42 rfl w.heap.size 3 i0 (.int .i64 0) 8 Tryz.underlying42 hi hz0 hz1 hz2 rfl _ pre.length _ rfl (hown.out.alloc _) (some ⟨wr.heap.size, 0, none⟩) 1 .i64 [(n : Int)] rfl (by simp) (rowAt_one wr 3 (n : Int)) (by unfold maxLen; simp; omega) (by simp; omega) hsb ?_; intro v3 w3 ho3 hg3; have hb3 := (xalloc hb.out _).grown hg3 hsb (fun j hj => (hown.out.lt j hj).1); replace hb3 := qh hb3; replace ho3 := qh ho3; clear hg3)
        have hown0 : Hid (OwnI w w3 v3 (withTo l n k k)) := qh (by rw [hw0.out]; exact OwnI.snoc ho3.out)
        clear ho3 hw0 hown hb hpre
        go_loopw [5, 8] (fun v i wx => ∃ (j : Nat), k ≤ j ∧ j ≤ l.length ∧ i = .int .i64 j ∧ Hid (OwnI w wx v (withTo l n k j)) ∧ Hid (Below w.heap.size w wx)) (fun _ i _ => 2097400 - (intOf i).toNat)
        case atStart => exact ⟨k, by omega, by omega, rfl, hown0, hb3⟩
        case round =>
          clear hown0 hb3
          obtain ⟨j, hkj, hj, rfl, hown, hb⟩ := hrel
          by_cases hlt : j < l.length
          · have hjI : (j : Int) < l.length := by omega
            obtain ⟨b, o, ea, hc⟩ := hcells.out j hlt wr hb.out
            cases ea
            have hs := hstep.out j hlt hkj
            have hlen2 := hwl.out j
            have hsb2 : w.heap.size ≤ (wr.alloc (.cells #[.int .i64 (l[j] : Int)] 3)).heap.size := by rw [World.size_alloc]; have := hb.out.size; omega
            generalize hP : withTo l n k j = P at *
            replace hP := qh hP
            by_cases e : l[j] = n
            · rw [if_neg (by simp [e]), List.append_nil] at hs
              have e2 : (l[j] : Int) = n := by omega
              rw [e2] at hc
              clear e e2
              replace hs := qh hs
              go_wp2
              exact ⟨⟨j + 1, by omega, by omega, rfl, by rw [hs.out]; exact hown, hb⟩, by simp [intOf]; omega⟩
            · rw [if_pos e] at hs
              have e2 : ¬ (l[j] : Int) = n := by omega
              generalize l[j] = x at *
              replace hs := qh hs
              clear e
              go_wp2_with (at_builtin; refine wpList_append_row (wr.alloc (.cells #[.int .i64 (x : Int)] 3)) rfl _ _ 42 rfl w.heap.size 3 i0 (.int .i64 0) 8 Tryz.underlying42 hi hz0 hz1 hz2 rfl _ P.length _ rfl (hown.out.alloc _) (some ⟨wr.heap.size, 0, none⟩) 1 .i64 [(x : Int)] rfl (by simp) (rowAt_one wr 3 (x : Int)) (by unfold maxLen; simp; omega) (by simp; omega) hsb2 ?_; intro v3 w3 ho3 hg3; have hb3 := (xalloc hb.out _).grown hg3 hsb2 (fun j hj => (hown.out.lt j hj).1); replace hb3 := qh hb3; replace ho3 := qh ho3; clear hg3)
              exact ⟨⟨j + 1, by omega, by omega, rfl, qh (by rw [hs.out]; exact OwnI.snoc ho3.out), hb3⟩, by simp [intOf]; omega⟩
          · obtain rfl : j = l.length := by omega
            have hown2 := hown.out
            rw [hall.out] at hown2
            replace hown2 := qh hown2
            clear hlt hown
            go_wp2
            go_ret
            exact ⟨⟨_, rfl, hown2.out⟩, hb.out⟩
def cutsT (cs : List Nat) (y : Option Nat) : Bool := match y with | none => true | some y => byN cs y == 91
def cutsN (cs : List Nat) (x : Nat) (y : Option Nat) : Bool := stopN (byN cs x) || cutsT cs y
def nxI (y : Option Nat) : Int := match y with | none => -1 | some y => y
set_option maxRecDepth 100000 in
theorem refCuts_anyL (cs : List Nat) (x : Nat) (y : Option Nat) (a : Option Addr) (c : Nat) (w : World) (h : CodeL w a c cs) (hx : x < cs.length) (hy : ∀ k, y = some k → k < cs.length) :
    Calls Tryz.prog 77 #[.slice a cs.length c, .int .i64 x, .int .i64 (nxI y)] w fun e w' => e = .returned (.bool (cutsN cs x y)) ∧ Below w.heap.size w w' := by
  have hcl := h.len
  obtain ⟨b, o, rfl, hc, h256⟩ := h.get hx
  have hxI : (x : Int) < cs.length := by omega
  have hends := qh fun W => refEnds_any (byN cs x) W h256
  have hcell : Hid (∀ W, Below w.heap.size w W → W.cell? ⟨b, o + x, none⟩ = some (.int .u8 (byN cs x))) := qh fun W hW => cbel hW hc
  have hdef : cutsN cs x y = ((endN (byN cs x) || byN cs x == 86 || byN cs x == 87) || cutsT cs y) := rfl
  rw [hdef]
  have hcells : Hid (∀ k, k < cs.length → ∀ W, Below w.heap.size w W → W.cell? ⟨b, o + k, none⟩ = some (.int .u8 (byN cs k))) := qh fun k hk W hW => by
    obtain ⟨b', o', e, hc, -⟩ := (h.below hW).get hk
    cases e; exact hc
  clear hdef h
  cases he : endN (byN cs x) with
  | true =>
    rw [he] at hends
    rw [Bool.true_or, Bool.true_or, Bool.true_or]
    generalize byN cs x = z at *
    generalize nxI y = q at *
    clear he hcells
    go_enter Tryz.func77, Tryz.ntmps77
    go_wp2_with (go_at_call 79; refine (hends.out _).mono ?_; rintro e w1 ⟨rfl, hb1⟩; have hc1 := hcell.out w1 hb1)
    go_ret
    exact ⟨rfl, hb1⟩
  | false =>
    rw [he] at hends
    rw [Bool.false_or]
    clear he
    generalize hz : byN cs x = z at *
    replace hz := qh hz
    by_cases e1 : z = 86
    · subst e1
      clear hcells
      generalize nxI y = q at *
      go_enter Tryz.func77, Tryz.ntmps77
      go_wp2_with (go_at_call 79; refine (hends.out _).mono ?_; rintro e w1 ⟨rfl, hb1⟩; have hc1 := hcell.out w1 hb1)
      go_ret
      exact ⟨rfl, hb1⟩
    · by_cases e2 : z = 87
      · subst e2
        clear hcells
        generalize nxI y = q at *
        go_enter Tryz.func77, Tryz.ntmps77
        go_wp2_with (go_at_call 79; refine (hends.out _).mono ?_; rintro e w1 ⟨rfl, hb1⟩; have hc1 := hcell.out w1 hb1)
        go_ret
        exact ⟨rfl, hb1⟩
      · have b1 : (z == 86) = false := by simpa using e1
        have b2 : (z == 87) = false := by simpa using e2
        have c1 : ¬ (z : Int) = 86 := by omega
        have c2 : ¬ (z : Int) = 87 := by omega
        rw [b1, b2, Bool.false_or, Bool.false_or]
        clear e1 e2 b1 b2
        cases y with
        | none =>
          clear hcells
          unfold nxI
          go_enter Tryz.func77, Tryz.ntmps77
          go_wp2_with (go_at_call 79; refine (hends.out _).mono ?_; rintro e w1 ⟨rfl, hb1⟩; have hc1 := hcell.out w1 hb1)
          go_ret
          refine ⟨?_, hb1⟩
          have d1 : ((z : Int) == 86) = false := by simpa using c1
          have d2 : ((z : Int) == 87) = false := by simpa using c2
          simp [d1, d2]
          rfl
        | some y =>
          have hyl := hy y rfl
          have hyI : (y : Int) < cs.length := by omega
          have hy2 := qh (hcells.out y hyl)
          have e3 : (byN cs y == 91) = (((byN cs y : Nat) : Int) == 91) := by
            rw [Bool.eq_iff_iff, beq_iff_eq, beq_iff_eq]; omega
          show Calls Tryz.prog 77 #[.slice (some ⟨b, o, none⟩) cs.length c, .int .i64 x, .int .i64 (y : Int)] w fun e w' => e = .returned (.bool (byN cs y == 91)) ∧ Below w.heap.size w w'
          rw [e3]
          generalize ((byN cs y : Nat) : Int) = u at *
          clear hcells e3 hy
          go_enter Tryz.func77, Tryz.ntmps77
          go_wp2_with (go_at_call 79; refine (hends.out _).mono ?_; rintro e w1 ⟨rfl, hb1⟩; have hc1 := hcell.out w1 hb1; have hc2 := hy2.out w1 hb1)
          go_ret
          refine ⟨?_, hb1⟩
          have d1 : ((z : Int) == 86) = false := by simpa using c1
          have d2 : ((z : Int) == 87) = false := by simpa using c2
          have d3 : decide ((y : Int) < 0) = false := by simp
          simp [d1, d2, d3]
theorem refBehind11_anyL (cs : List Nat) (x : Nat) (a : Option Addr) (c : Nat) (w : World) (h : CodeL w a c cs) (hx : x < cs.length) :
    Calls Tryz.prog 78 #[.slice a cs.length c, .int .i64 x] w fun e w' => e = .returned (.int .i64 (if nxN cs x < cs.length then ((nxN cs x : Nat) : Int) else -1)) ∧ Below w.heap.size w w' := by
  have hcl := h.len
  obtain ⟨b, o, rfl, hc, h256⟩ := h.get hx
  have hxI : (x : Int) < cs.length := by omega
  have hnx : Hid ((x : Int) + 1 + ((szN (byN cs x) : Nat) : Int) = ((nxN cs x : Nat) : Int)) := qh (by unfold nxN; omega)
  have hsz := szN_le (byN cs x)
  have hnl : nxN cs x ≤ 1048700 := by unfold nxN; omega
  have hinf := qh (refSize_any (byN cs x) w h256)
  generalize nxN cs x = nx at *
  generalize szN (byN cs x) = sz at *
  generalize byN cs x = z at *
  clear h
  by_cases hl : nx < cs.length
  · rw [if_pos hl]
    have hlI : ¬ (cs.length : Int) ≤ nx := by omega
    go_enter Tryz.func78, Tryz.ntmps78
    go_wp2_with (go_at_call 70; refine hinf.out.mono ?_; rintro e w1 ⟨⟨nm, i, o, g, q, rfl⟩, hb1⟩; have hnx := hnx.out)
    go_ret
    exact ⟨rfl, hb1⟩
  · rw [if_neg hl]
    have hlI : (cs.length : Int) ≤ nx := by omega
    go_enter Tryz.func78, Tryz.ntmps78
    go_wp2_with (go_at_call 70; refine hinf.out.mono ?_; rintro e w1 ⟨⟨nm, i, o, g, q, rfl⟩, hb1⟩; have hnx := hnx.out)
    go_ret
    exact ⟨rfl, hb1⟩
end
section
open Go.RowKit
def blkC (p : Option Addr) (q : Nat) (b : BlkN) : List Value := [.int .i64 b.first, .int .i64 b.last, .slice p b.next.length q, .bool b.exit]
def blkV (p : Option Addr) (q : Nat) (b : BlkN) : Value := .agg (blkC p q b).toArray
def blk0 : BlkN := ⟨0, 0, [], false⟩
structure BlksAt (w : World) (a : Option Addr) (c : Nat) (bs : List BlkN) : Prop where
  elt : ∀ i (h : i < bs.length), ∃ b o p q, a = some ⟨b, o, none⟩ ∧ w.rangeAt b (o + i * 4) (blkC p q bs[i]) ∧ IntsAt w p q bs[i].next
  nil : a = none → c = 0
theorem rangeAt_below {w w' : World} {b o : Nat} {cs : List Value} (h : w.rangeAt b o cs) (hb : Below w.heap.size w w') : w'.rangeAt b o cs := fun j v hj => cbel hb (h j v hj)
theorem BlksAt.below {w w' : World} {a : Option Addr} {c : Nat} {bs : List BlkN} (h : BlksAt w a c bs) (hb : Below w.heap.size w w') : BlksAt w' a c bs := ⟨fun i hi => by
  obtain ⟨b, o, p, q, e, h1, h2⟩ := h.elt i hi
  exact ⟨b, o, p, q, e, rangeAt_below h1 hb, h2.below hb⟩, h.nil⟩
theorem range_blk {w : World} {b o : Nat} {p : Option Addr} {q : Nat} {x : BlkN} (h : w.rangeAt b o (blkC p q x)) : w.cell? ⟨b, o, none⟩ = some (.int .i64 x.first) ∧ w.cell? ⟨b, o + 1, none⟩ = some (.int .i64 x.last) ∧ w.cell? ⟨b, o + 2, none⟩ = some (.slice p x.next.length q) ∧ w.cell? ⟨b, o + 3, none⟩ = some (.bool x.exit) :=
  ⟨h 0 _ rfl, h 1 _ rfl, h 2 _ rfl, h 3 _ rfl⟩
def findZ (bs : List BlkN) (n : Int) : Option BlkN := bs.find? fun b => (b.first : Int) == n
theorem findZ_nat (bs : List BlkN) (n : Nat) : findZ bs n = findB bs n := by
  unfold findZ findB
  congr 1
  funext b
  rw [Bool.eq_iff_iff, beq_iff_eq, decide_eq_true_eq]; omega
def ofZ (bs : List BlkN) (n : Int) : Option BlkN := bs.find? fun b => decide ((b.first : Int) ≤ n) && decide (n ≤ (b.last : Int))
theorem find_some {α : Type} {l : List α} {f : α → Bool} {k : Nat} (hk : k < l.length) (h : f l[k] = true) (hn : ∀ j, (hj : j < l.length) → j < k → f l[j] = false) : l.find? f = some l[k] := by
  have e0 := List.find?_append (xs := l.take k) (ys := l.drop k) (p := f)
  rw [List.take_append_drop] at e0
  have e1 : (l.take k).find? f = none := by
    rw [List.find?_eq_none]
    intro x hx
    obtain ⟨j, hj, rfl⟩ := List.getElem_of_mem hx
    rw [List.getElem_take]
    rw [List.length_take] at hj
    simp [hn j (by omega) (by omega)]
  have e2 : (l.drop k).find? f = some l[k] := by
    rw [List.drop_eq_getElem_cons hk, List.find?_cons, h]
  rw [e0, e1, e2]
  rfl
theorem find_no {α : Type} {l : List α} {f : α → Bool} (hn : ∀ j, (hj : j < l.length) → f l[j] = false) : l.find? f = none := by
  rw [List.find?_eq_none]
  intro x hx
  obtain ⟨j, hj, rfl⟩ := List.getElem_of_mem hx
  simp [hn j hj]
def FindR (w : World) (r : Option BlkN) (e : Ending) (w' : World) : Prop := (∃ p q, e = .returned (.tuple #[blkV p q (r.getD blk0), .bool r.isSome]) ∧ IntsAt w' p q (r.getD blk0).next) ∧ Below w.heap.size w w'
theorem intsAt_nil (w : World) : IntsAt w none 0 [] := ⟨fun i hi => absurd hi (by simp [natI]), fun _ => rfl⟩
theorem struct_block : ∃ fs, Tryz.prog.underlying 51 = some (.struct fs) := ⟨_, Tryz.underlying51⟩
set_option maxRecDepth 100000 in
set_option maxHeartbeats 1000000 in
theorem refOf11_any (bs : List BlkN) (n : Int) (a : Option Addr) (c : Nat) (w : World) (h : BlksAt w a c bs) (hl : bs.length ≤ 1048700) :
    Calls Tryz.prog 49 #[.slice a bs.length c, .int .i64 n] w (FindR w (ofZ bs n)) := by
  have hB0 : Hid (BlkG (w.alloc (.cells #[.int .i64 0, .int .i64 0, .slice none 0 0, .bool false] 51)) w.heap.size 51 (blkC none 0 blk0)) := qh (BlkG.new w _ (blkC none 0 blk0))
  have hb0 : Hid (Below w.heap.size w (w.alloc (.cells #[.int .i64 0, .int .i64 0, .slice none 0 0, .bool false] 51))) := qh (xalloc (xrefl w) _)
  obtain ⟨fs, hu⟩ := struct_block
  have hyes : Hid (∀ k, (hk : k < bs.length) → ((bs[k].first : Int) ≤ n ∧ n ≤ (bs[k].last : Int)) → (∀ j, (hj : j < bs.length) → j < k → ¬ ((bs[j].first : Int) ≤ n ∧ n ≤ (bs[j].last : Int))) → ofZ bs n = some bs[k]) := qh fun k hk e hn => find_some hk (by simpa using e) fun j hj hjk => by simpa using hn j hj hjk
  have hno : Hid ((∀ j, (hj : j < bs.length) → ¬ ((bs[j].first : Int) ≤ n ∧ n ≤ (bs[j].last : Int))) → ofZ bs n = none) := qh fun hn => find_no fun j hj => by simpa using hn j hj
  have h2 := qh h
  clear h
  generalize ofZ bs n = r at *
  go_enter Tryz.func49, Tryz.ntmps49
  go_wp2
  go_loop [6] (fun i => ∃ k : Nat, k ≤ bs.length ∧ i = .int .i64 k ∧ Hid (∀ j, (h : j < bs.length) → j < k → ¬ ((bs[j].first : Int) ≤ n ∧ n ≤ (bs[j].last : Int)))) (fun i => bs.length - (intOf i).toNat)
  case atStart => exact ⟨0, by omega, rfl, qh fun j _ h => by omega⟩
  case round =>
    obtain ⟨k, hk, rfl, hs⟩ := hrel
    by_cases hlt : k < bs.length
    · have hltI : (k : Int) < bs.length := by omega
      obtain ⟨b, o, p, q, rfl, hr, hI⟩ := h2.out.elt k hlt
      replace hr := rangeAt_below hr hb0.out
      obtain ⟨hc, hd, -, -⟩ := range_blk hr
      by_cases e : ((bs[k].first : Int) ≤ n ∧ n ≤ (bs[k].last : Int))
      · have hrr := hyes.out k hlt e hs.out
        subst hrr
        obtain ⟨e1, e2⟩ := e
        replace hr := qh hr
        replace hI := qh hI
        go_wp2_with (first
          | (refine wpList_load_mid rfl 51 _ rfl b (o + k * 4) rfl (blkC p q bs[k]) _ hr.out hu rfl (by kernel_rfl) ?_)
          | (refine wpList_store_blkG rfl 51 _ _ rfl w.heap.size rfl 51 (blkC none 0 blk0) (blkC p q bs[k]) hB0.out rfl rfl (by kernel_rfl) rfl ?_; intro w2 hB2 ho2; replace hB2 := qh hB2; replace ho2 := qh ho2))
        refine bodyPost_ret (results_blkG2 (p := 4) rfl _ _ w.heap.size 51 _ _ rfl hB2.out hu rfl (by kernel_rfl)) rfl ?_
        have hb2 := ho2.out.below hb0.out hb0.out.size (by rintro i rfl; omega)
        exact ⟨⟨p, q, rfl, hI.out.below hb2⟩, hb2⟩
      · have hs2 : Hid (∀ j, (h : j < bs.length) → j < k + 1 → ¬ ((bs[j].first : Int) ≤ n ∧ n ≤ (bs[j].last : Int))) := qh fun j h hj => by
          by_cases e2 : j = k
          · subst e2; exact e
          · exact hs.out j h (by omega)
        clear hr hI
        by_cases e1 : (bs[k].first : Int) ≤ n
        · have e3 : ¬ n ≤ (bs[k].last : Int) := fun h => e ⟨e1, h⟩
          generalize (bs[k].first : Int) = y at *
          generalize (bs[k].last : Int) = y2 at *
          clear e
          go_wp2
          exact ⟨⟨k + 1, by omega, rfl, hs2⟩, by simp [intOf]; omega⟩
        · generalize (bs[k].first : Int) = y at *
          generalize (bs[k].last : Int) = y2 at *
          clear e
          go_wp2
          exact ⟨⟨k + 1, by omega, rfl, hs2⟩, by simp [intOf]; omega⟩
    · obtain rfl : k = bs.length := by omega
      have hrr := hno.out fun j h => hs.out j h h
      subst hrr
      clear hlt
      go_wp2_with (refine wpList_store_blkG rfl 51 _ _ rfl w.heap.size rfl 51 (blkC none 0 blk0) (blkC none 0 blk0) hB0.out rfl rfl (by kernel_rfl) rfl ?_; intro w2 hB2 ho2; replace hB2 := qh hB2; replace ho2 := qh ho2)
      refine bodyPost_ret (results_blkG2 (p := 4) rfl _ _ w.heap.size 51 _ _ rfl hB2.out hu rfl (by kernel_rfl)) rfl ⟨⟨none, 0, rfl, intsAt_nil _⟩, ?_⟩
      exact ho2.out.below hb0.out hb0.out.size (by rintro i rfl; omega)
end
end Go.Proofs.YtijkdabmegbcjaaGreatDoor
