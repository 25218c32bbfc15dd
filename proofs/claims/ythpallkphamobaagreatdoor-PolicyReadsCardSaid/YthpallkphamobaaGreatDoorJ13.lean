/- Texts of this claim, merged; no condition. -/
import Derived.Test.YthpallkphamobaaGreatDoorJ12
set_option linter.all false
namespace Go.Proofs.YthpallkphamobaaGreatDoor
open Go.RowKit Go.Shelf

set_option maxRecDepth 100000 in
set_option maxHeartbeats 8000000 in
theorem rising_clearC_any (l : List (List Nat × BitVec 64)) (a : Option Addr) (c : Nat) (w : World) (hl : RowsAt 21 clearC w a c l) (hlen : l.length ≤ 1000000) (hok : ∀ x ∈ l, Adr x.1) :
    Calls Tryz.prog 73 #[.func (.func 74) #[] #[], .slice a l.length c] w fun e w' => e = .returned (.bool (riseF ordC l)) ∧ Below w.heap.size w w' := by
  have hcap := hl.cap
  have hri := Lib.hid (rise_iff ordC l)
  replace hok := Lib.hid hok
  replace hl := Lib.hid hl
  go_enter Tryz.func73, Tryz.ntmps73
  go_wp2
  go_loopw [8] (fun iv wr => ∃ i : Nat, iv = .int .i64 i ∧ i ≤ l.length ∧ Hid (∀ j (h : j + 1 < l.length), j + 1 < i → ordC l[j] l[j + 1] < 0) ∧ Hid (Below w.heap.size w wr)) (fun iv _ => l.length - (intOf iv).toNat)
  case atStart => exact ⟨0, rfl, by omega, Lib.hid fun j _ h => by omega, Lib.hid (xrefl w)⟩
  case round =>
    obtain ⟨i, rfl, hi, hs, hb⟩ := hrel
    by_cases hlt : i < l.length
    · have hltI : (i : Int) < l.length := by omega
      have hwi : IntKind.i64.wrap ((i : Int) + 1) = (i : Int) + 1 := by simp [IntKind.wrap, IntKind.bits, IntKind.signed]; omega
      obtain ⟨g, o, rfl, hri2⟩ := (hl.out.below hb.out).elt i hlt
      by_cases hi0 : i = 0
      · have hi0I : ¬ (i : Int) > 0 := by omega
        have hnew : Hid (∀ j (h : j + 1 < l.length), j + 1 < i + 1 → ordC l[j] l[j + 1] < 0) := Lib.hid fun j h hj => by omega
        clear hi0 hri2 hri
        go_wp2
        refine' wp_region_growL 16 [fixd (.int .i64 i), fixd (.bool false), fixd (.bool false), fixd undef, fixd undef, fixd undef, fixd undef, fixd undef, fixd undef, fixd undef, fixd undef, fixd undef, fixd undef, fixd undef, fixd undef, fixd (.bool false)] (by kernel_rfl) (by kernel_rfl) ?_
        simp only [List.take_succ_cons, List.take_zero, List.drop_succ_cons, List.drop_zero]
        try simp only [Act.put, List.setIfInBounds_toArray, List.set_cons_succ, List.set_cons_zero, List.nil_append, List.cons_append]
        apply wpGrowV_fix (.int .i64 i) rfl rfl
        · intro W hb hF
          go_simp
          first | exact xrefl W | exact ⟨rfl, xrefl W⟩ | exact ⟨by omega, xrefl W⟩
        try simp only [Act.put, List.setIfInBounds_toArray, List.set_cons_succ, List.set_cons_zero, List.nil_append, List.cons_append]
        apply wpGrowV_fix (.bool false) rfl rfl
        · intro W hb hF
          go_simp
          first | exact xrefl W | exact ⟨rfl, xrefl W⟩ | exact ⟨by omega, xrefl W⟩
        try simp only [Act.put, List.setIfInBounds_toArray, List.set_cons_succ, List.set_cons_zero, List.nil_append, List.cons_append]
        apply wpGrowV_fix (.bool false) rfl rfl
        · intro W hb hF
          go_simp
          first | exact xrefl W | exact ⟨rfl, xrefl W⟩ | exact ⟨by omega, xrefl W⟩
        try simp only [Act.put, List.setIfInBounds_toArray, List.set_cons_succ, List.set_cons_zero, List.nil_append, List.cons_append]
        refine wpGrowV_not rfl rfl ?_
        try simp only [Act.put, List.setIfInBounds_toArray, List.set_cons_succ, List.set_cons_zero, List.nil_append, List.cons_append]
        refine wpGrowV_not rfl rfl ?_
        try simp only [Act.put, List.setIfInBounds_toArray, List.set_cons_succ, List.set_cons_zero, List.nil_append, List.cons_append]
        refine wpGrowV_not rfl rfl ?_
        try simp only [Act.put, List.setIfInBounds_toArray, List.set_cons_succ, List.set_cons_zero, List.nil_append, List.cons_append]
        refine wpGrowV_not rfl rfl ?_
        try simp only [Act.put, List.setIfInBounds_toArray, List.set_cons_succ, List.set_cons_zero, List.nil_append, List.cons_append]
        refine wpGrowV_not rfl rfl ?_
        try simp only [Act.put, List.setIfInBounds_toArray, List.set_cons_succ, List.set_cons_zero, List.nil_append, List.cons_append]
        refine wpGrowV_not rfl rfl ?_
        try simp only [Act.put, List.setIfInBounds_toArray, List.set_cons_succ, List.set_cons_zero, List.nil_append, List.cons_append]
        refine wpGrowV_not rfl rfl ?_
        try simp only [Act.put, List.setIfInBounds_toArray, List.set_cons_succ, List.set_cons_zero, List.nil_append, List.cons_append]
        refine wpGrowV_not rfl rfl ?_
        try simp only [Act.put, List.setIfInBounds_toArray, List.set_cons_succ, List.set_cons_zero, List.nil_append, List.cons_append]
        refine wpGrowV_not rfl rfl ?_
        try simp only [Act.put, List.setIfInBounds_toArray, List.set_cons_succ, List.set_cons_zero, List.nil_append, List.cons_append]
        refine wpGrowV_not rfl rfl ?_
        try simp only [Act.put, List.setIfInBounds_toArray, List.set_cons_succ, List.set_cons_zero, List.nil_append, List.cons_append]
        refine wpGrowV_not rfl rfl ?_
        try simp only [Act.put, List.setIfInBounds_toArray, List.set_cons_succ, List.set_cons_zero, List.nil_append, List.cons_append]
        refine wpGrowV_not rfl rfl ?_
        try simp only [Act.put, List.setIfInBounds_toArray, List.set_cons_succ, List.set_cons_zero, List.nil_append, List.cons_append]
        apply wpGrowV_fix (.bool false) rfl rfl
        · intro W hb hF
          go_simp
          first | exact xrefl W | exact ⟨rfl, xrefl W⟩ | exact ⟨by omega, xrefl W⟩
        try simp only [Act.put, List.setIfInBounds_toArray, List.set_cons_succ, List.set_cons_zero, List.nil_append, List.cons_append]
        intro W hbW _
        replace hb := Lib.hid (xtrans hb.out hbW)
        go_wp2
        exact ⟨⟨i + 1, by first | rfl | simp, by omega, hnew, hb⟩, by simp [intOf]; omega⟩
      · have hi0I : (i : Int) > 0 := by omega
        obtain ⟨k, hk⟩ : ∃ k, i = k + 1 := ⟨i - 1, by omega⟩
        have hkl : k < l.length := by omega
        obtain ⟨g2, o2, e2, hrk⟩ := (hl.out.below hb.out).elt k hkl
        cases e2
        have hxi := Lib.hid (hok.out _ (List.getElem_mem hlt))
        have hxk := Lib.hid (hok.out _ (List.getElem_mem hkl))
        have hsub : IntKind.i64.wrap ((i : Int) - 1) = (k : Int) := by subst hk; simp [IntKind.wrap, IntKind.bits, IntKind.signed]; omega
        have hwk : IntKind.i64.wrap (k : Int) = (k : Int) := by simp [IntKind.wrap, IntKind.bits, IntKind.signed]; omega
        have hkI : (k : Int) < l.length := by omega
        have hnew : Hid (ordC l[k] l[i] < 0 → ∀ j (h : j + 1 < l.length), j + 1 < i + 1 → ordC l[j] l[j + 1] < 0) := Lib.hid fun h0 j h hj => by
          by_cases e : j + 1 = i
          · subst e
            obtain rfl : j = k := by omega
            exact h0
          · exact hs.out j h (by omega)
        have hbd : Hid (¬ ordC l[k] l[i] < 0 → riseF ordC l = false) := Lib.hid fun h0 => by
          cases hr : riseF ordC l with
          | false => rfl
          | true =>
            subst hk
            exact absurd (hri.out.1 hr k hlt) h0
        generalize l[k] = xk at *
        generalize l[i] = xi at *
        replace hrk := Lib.hid hrk
        replace hri := Lib.hid hri2
        clear hk hi0 hs hri2
        by_cases hn : ordC xk xi < 0
        · have hn2 : ¬ (0 : Int) ≤ ordC xk xi := by omega
          replace hnew := Lib.hid (hnew.out hn)
          clear hbd
          go_wp2
          refine' wp_region_growL 16 [fixd (.int .i64 i), fixd (.bool true), fixd (.bool true), fixd (.func (.func 74) #[] #[]), fixd (.slice (some ⟨g, o, none⟩) l.length c), fixd (.int .i64 i), fixd (.int .i64 k), fixd (.pointer (some ⟨g, o + k * 21, none⟩)), fixd (.agg (clearC xk).toArray), fixd (.slice (some ⟨g, o, none⟩) l.length c), fixd (.int .i64 i), fixd (.pointer (some ⟨g, o + i * 21, none⟩)), fixd (.agg (clearC xi).toArray), fixd (.int .i64 (ordC xk xi)), fixd (.bool false), fixd (.bool false)] (by kernel_rfl) (by kernel_rfl) ?_
          simp only [List.take_succ_cons, List.take_zero, List.drop_succ_cons, List.drop_zero]
          try simp only [Act.put, List.setIfInBounds_toArray, List.set_cons_succ, List.set_cons_zero, List.nil_append, List.cons_append]
          apply wpGrowV_fix (.int .i64 i) rfl rfl
          · intro W hb hF
            go_simp
            first | exact xrefl W | exact ⟨rfl, xrefl W⟩ | exact ⟨by omega, xrefl W⟩
          try simp only [Act.put, List.setIfInBounds_toArray, List.set_cons_succ, List.set_cons_zero, List.nil_append, List.cons_append]
          apply wpGrowV_fix (.bool true) rfl rfl
          · intro W hb hF
            go_simp
            first | exact xrefl W | exact ⟨rfl, xrefl W⟩ | exact ⟨by omega, xrefl W⟩
          try simp only [Act.put, List.setIfInBounds_toArray, List.set_cons_succ, List.set_cons_zero, List.nil_append, List.cons_append]
          apply wpGrowV_fix (.bool true) rfl rfl
          · intro W hb hF
            go_simp
            first | exact xrefl W | exact ⟨rfl, xrefl W⟩ | exact ⟨by omega, xrefl W⟩
          try simp only [Act.put, List.setIfInBounds_toArray, List.set_cons_succ, List.set_cons_zero, List.nil_append, List.cons_append]
          apply wpGrowV_fix (.func (.func 74) #[] #[]) rfl rfl
          · intro W hb hF
            go_simp
            first | exact xrefl W | exact ⟨rfl, xrefl W⟩ | exact ⟨by omega, xrefl W⟩
          try simp only [Act.put, List.setIfInBounds_toArray, List.set_cons_succ, List.set_cons_zero, List.nil_append, List.cons_append]
          apply wpGrowV_fix (.slice (some ⟨g, o, none⟩) l.length c) rfl rfl
          · intro W hb hF
            go_simp
            first | exact xrefl W | exact ⟨rfl, xrefl W⟩ | exact ⟨by omega, xrefl W⟩
          try simp only [Act.put, List.setIfInBounds_toArray, List.set_cons_succ, List.set_cons_zero, List.nil_append, List.cons_append]
          apply wpGrowV_fix (.int .i64 i) rfl rfl
          · intro W hb hF
            go_simp
            first | exact xrefl W | exact ⟨rfl, xrefl W⟩ | exact ⟨by omega, xrefl W⟩
          try simp only [Act.put, List.setIfInBounds_toArray, List.set_cons_succ, List.set_cons_zero, List.nil_append, List.cons_append]
          apply wpGrowV_fix (.int .i64 k) rfl rfl
          · intro W hb hF
            go_simp
            first | exact xrefl W | exact ⟨rfl, xrefl W⟩ | exact ⟨by omega, xrefl W⟩
          try simp only [Act.put, List.setIfInBounds_toArray, List.set_cons_succ, List.set_cons_zero, List.nil_append, List.cons_append]
          apply wpGrowV_fix (.pointer (some ⟨g, o + k * 21, none⟩)) rfl rfl
          · intro W hb hF
            go_simp
            first | exact xrefl W | exact ⟨rfl, xrefl W⟩ | exact ⟨by omega, xrefl W⟩
          try simp only [Act.put, List.setIfInBounds_toArray, List.set_cons_succ, List.set_cons_zero, List.nil_append, List.cons_append]
          apply wpGrowV_fix (.agg (clearC xk).toArray) rfl rfl
          · intro W hb hF
            rw [run_load_midV 65 _ rfl (g) (o + k * 21) rfl (clearC xk) _ (fun j v hj => cbel hb (hrk.out j v hj)) Tryz.underlying65 rfl (by rw [clearC_len hxk.out]; kernel_rfl)]
            exact ⟨rfl, xrefl W⟩
          try simp only [Act.put, List.setIfInBounds_toArray, List.set_cons_succ, List.set_cons_zero, List.nil_append, List.cons_append]
          apply wpGrowV_fix (.slice (some ⟨g, o, none⟩) l.length c) rfl rfl
          · intro W hb hF
            go_simp
            first | exact xrefl W | exact ⟨rfl, xrefl W⟩ | exact ⟨by omega, xrefl W⟩
          try simp only [Act.put, List.setIfInBounds_toArray, List.set_cons_succ, List.set_cons_zero, List.nil_append, List.cons_append]
          apply wpGrowV_fix (.int .i64 i) rfl rfl
          · intro W hb hF
            go_simp
            first | exact xrefl W | exact ⟨rfl, xrefl W⟩ | exact ⟨by omega, xrefl W⟩
          try simp only [Act.put, List.setIfInBounds_toArray, List.set_cons_succ, List.set_cons_zero, List.nil_append, List.cons_append]
          apply wpGrowV_fix (.pointer (some ⟨g, o + i * 21, none⟩)) rfl rfl
          · intro W hb hF
            go_simp
            first | exact xrefl W | exact ⟨rfl, xrefl W⟩ | exact ⟨by omega, xrefl W⟩
          try simp only [Act.put, List.setIfInBounds_toArray, List.set_cons_succ, List.set_cons_zero, List.nil_append, List.cons_append]
          apply wpGrowV_fix (.agg (clearC xi).toArray) rfl rfl
          · intro W hb hF
            rw [run_load_midV 65 _ rfl (g) (o + i * 21) rfl (clearC xi) _ (fun j v hj => cbel hb (hri.out j v hj)) Tryz.underlying65 rfl (by rw [clearC_len hxi.out]; kernel_rfl)]
            exact ⟨rfl, xrefl W⟩
          try simp only [Act.put, List.setIfInBounds_toArray, List.set_cons_succ, List.set_cons_zero, List.nil_append, List.cons_append]
          apply wpGrowV_fix (.int .i64 (ordC xk xi)) rfl rfl
          · intro W hb hF
            go_simp
            go_at_call 74
            refine (right1_any xk xi W hxk.out hxi.out).mono ?_
            rintro e w' ⟨rfl, hb'⟩
            exact ⟨rfl, hb'⟩
          try simp only [Act.put, List.setIfInBounds_toArray, List.set_cons_succ, List.set_cons_zero, List.nil_append, List.cons_append]
          apply wpGrowV_fix (.bool false) rfl rfl
          · intro W hb hF
            go_simp
            first | exact xrefl W | exact ⟨rfl, xrefl W⟩ | exact ⟨by omega, xrefl W⟩
          try simp only [Act.put, List.setIfInBounds_toArray, List.set_cons_succ, List.set_cons_zero, List.nil_append, List.cons_append]
          apply wpGrowV_fix (.bool false) rfl rfl
          · intro W hb hF
            go_simp
            first | exact xrefl W | exact ⟨rfl, xrefl W⟩ | exact ⟨by omega, xrefl W⟩
          try simp only [Act.put, List.setIfInBounds_toArray, List.set_cons_succ, List.set_cons_zero, List.nil_append, List.cons_append]
          intro W hbW _
          replace hb := Lib.hid (xtrans hb.out hbW)
          go_wp2
          exact ⟨⟨i + 1, by first | rfl | simp, by omega, hnew, hb⟩, by simp [intOf]; omega⟩
        · have hn2 : (0 : Int) ≤ ordC xk xi := by omega
          replace hbd := Lib.hid (hbd.out hn)
          go_wp2
          refine' wp_region_growL 16 [fixd (.int .i64 i), fixd (.bool true), fixd (.bool true), fixd (.func (.func 74) #[] #[]), fixd (.slice (some ⟨g, o, none⟩) l.length c), fixd (.int .i64 i), fixd (.int .i64 k), fixd (.pointer (some ⟨g, o + k * 21, none⟩)), fixd (.agg (clearC xk).toArray), fixd (.slice (some ⟨g, o, none⟩) l.length c), fixd (.int .i64 i), fixd (.pointer (some ⟨g, o + i * 21, none⟩)), fixd (.agg (clearC xi).toArray), fixd (.int .i64 (ordC xk xi)), fixd (.bool true), fixd (.bool true)] (by kernel_rfl) (by kernel_rfl) ?_
          simp only [List.take_succ_cons, List.take_zero, List.drop_succ_cons, List.drop_zero]
          try simp only [Act.put, List.setIfInBounds_toArray, List.set_cons_succ, List.set_cons_zero, List.nil_append, List.cons_append]
          apply wpGrowV_fix (.int .i64 i) rfl rfl
          · intro W hb hF
            go_simp
            first | exact xrefl W | exact ⟨rfl, xrefl W⟩ | exact ⟨by omega, xrefl W⟩
          try simp only [Act.put, List.setIfInBounds_toArray, List.set_cons_succ, List.set_cons_zero, List.nil_append, List.cons_append]
          apply wpGrowV_fix (.bool true) rfl rfl
          · intro W hb hF
            go_simp
            first | exact xrefl W | exact ⟨rfl, xrefl W⟩ | exact ⟨by omega, xrefl W⟩
          try simp only [Act.put, List.setIfInBounds_toArray, List.set_cons_succ, List.set_cons_zero, List.nil_append, List.cons_append]
          apply wpGrowV_fix (.bool true) rfl rfl
          · intro W hb hF
            go_simp
            first | exact xrefl W | exact ⟨rfl, xrefl W⟩ | exact ⟨by omega, xrefl W⟩
          try simp only [Act.put, List.setIfInBounds_toArray, List.set_cons_succ, List.set_cons_zero, List.nil_append, List.cons_append]
          apply wpGrowV_fix (.func (.func 74) #[] #[]) rfl rfl
          · intro W hb hF
            go_simp
            first | exact xrefl W | exact ⟨rfl, xrefl W⟩ | exact ⟨by omega, xrefl W⟩
          try simp only [Act.put, List.setIfInBounds_toArray, List.set_cons_succ, List.set_cons_zero, List.nil_append, List.cons_append]
          apply wpGrowV_fix (.slice (some ⟨g, o, none⟩) l.length c) rfl rfl
          · intro W hb hF
            go_simp
            first | exact xrefl W | exact ⟨rfl, xrefl W⟩ | exact ⟨by omega, xrefl W⟩
          try simp only [Act.put, List.setIfInBounds_toArray, List.set_cons_succ, List.set_cons_zero, List.nil_append, List.cons_append]
          apply wpGrowV_fix (.int .i64 i) rfl rfl
          · intro W hb hF
            go_simp
            first | exact xrefl W | exact ⟨rfl, xrefl W⟩ | exact ⟨by omega, xrefl W⟩
          try simp only [Act.put, List.setIfInBounds_toArray, List.set_cons_succ, List.set_cons_zero, List.nil_append, List.cons_append]
          apply wpGrowV_fix (.int .i64 k) rfl rfl
          · intro W hb hF
            go_simp
            first | exact xrefl W | exact ⟨rfl, xrefl W⟩ | exact ⟨by omega, xrefl W⟩
          try simp only [Act.put, List.setIfInBounds_toArray, List.set_cons_succ, List.set_cons_zero, List.nil_append, List.cons_append]
          apply wpGrowV_fix (.pointer (some ⟨g, o + k * 21, none⟩)) rfl rfl
          · intro W hb hF
            go_simp
            first | exact xrefl W | exact ⟨rfl, xrefl W⟩ | exact ⟨by omega, xrefl W⟩
          try simp only [Act.put, List.setIfInBounds_toArray, List.set_cons_succ, List.set_cons_zero, List.nil_append, List.cons_append]
          apply wpGrowV_fix (.agg (clearC xk).toArray) rfl rfl
          · intro W hb hF
            rw [run_load_midV 65 _ rfl (g) (o + k * 21) rfl (clearC xk) _ (fun j v hj => cbel hb (hrk.out j v hj)) Tryz.underlying65 rfl (by rw [clearC_len hxk.out]; kernel_rfl)]
            exact ⟨rfl, xrefl W⟩
          try simp only [Act.put, List.setIfInBounds_toArray, List.set_cons_succ, List.set_cons_zero, List.nil_append, List.cons_append]
          apply wpGrowV_fix (.slice (some ⟨g, o, none⟩) l.length c) rfl rfl
          · intro W hb hF
            go_simp
            first | exact xrefl W | exact ⟨rfl, xrefl W⟩ | exact ⟨by omega, xrefl W⟩
          try simp only [Act.put, List.setIfInBounds_toArray, List.set_cons_succ, List.set_cons_zero, List.nil_append, List.cons_append]
          apply wpGrowV_fix (.int .i64 i) rfl rfl
          · intro W hb hF
            go_simp
            first | exact xrefl W | exact ⟨rfl, xrefl W⟩ | exact ⟨by omega, xrefl W⟩
          try simp only [Act.put, List.setIfInBounds_toArray, List.set_cons_succ, List.set_cons_zero, List.nil_append, List.cons_append]
          apply wpGrowV_fix (.pointer (some ⟨g, o + i * 21, none⟩)) rfl rfl
          · intro W hb hF
            go_simp
            first | exact xrefl W | exact ⟨rfl, xrefl W⟩ | exact ⟨by omega, xrefl W⟩
          try simp only [Act.put, List.setIfInBounds_toArray, List.set_cons_succ, List.set_cons_zero, List.nil_append, List.cons_append]
          apply wpGrowV_fix (.agg (clearC xi).toArray) rfl rfl
          · intro W hb hF
            rw [run_load_midV 65 _ rfl (g) (o + i * 21) rfl (clearC xi) _ (fun j v hj => cbel hb (hri.out j v hj)) Tryz.underlying65 rfl (by rw [clearC_len hxi.out]; kernel_rfl)]
            exact ⟨rfl, xrefl W⟩
          try simp only [Act.put, List.setIfInBounds_toArray, List.set_cons_succ, List.set_cons_zero, List.nil_append, List.cons_append]
          apply wpGrowV_fix (.int .i64 (ordC xk xi)) rfl rfl
          · intro W hb hF
            go_simp
            go_at_call 74
            refine (right1_any xk xi W hxk.out hxi.out).mono ?_
            rintro e w' ⟨rfl, hb'⟩
            exact ⟨rfl, hb'⟩
          try simp only [Act.put, List.setIfInBounds_toArray, List.set_cons_succ, List.set_cons_zero, List.nil_append, List.cons_append]
          apply wpGrowV_fix (.bool true) rfl rfl
          · intro W hb hF
            go_simp
            first | exact xrefl W | exact ⟨rfl, xrefl W⟩ | exact ⟨by omega, xrefl W⟩
          try simp only [Act.put, List.setIfInBounds_toArray, List.set_cons_succ, List.set_cons_zero, List.nil_append, List.cons_append]
          apply wpGrowV_fix (.bool true) rfl rfl
          · intro W hb hF
            go_simp
            first | exact xrefl W | exact ⟨rfl, xrefl W⟩ | exact ⟨by omega, xrefl W⟩
          try simp only [Act.put, List.setIfInBounds_toArray, List.set_cons_succ, List.set_cons_zero, List.nil_append, List.cons_append]
          intro W hbW _
          replace hb := Lib.hid (xtrans hb.out hbW)
          go_wp2
          go_ret
          exact ⟨by rw [hbd.out]; rfl, hb.out⟩
    · obtain rfl : i = l.length := by omega
      have hfin := Lib.hid (hri.out.2 fun j h => hs.out j h h)
      clear hlt
      go_wp2
      go_ret
      exact ⟨by rw [hfin.out]; rfl, hb.out⟩
set_option maxRecDepth 100000 in
set_option maxHeartbeats 8000000 in
theorem rising_relC_any (l : List (List Nat × Nat × BitVec 64)) (a : Option Addr) (c : Nat) (w : World) (hl : RowsAt 22 relC w a c l) (hlen : l.length ≤ 1000000) (hok : ∀ x ∈ l, Adr x.1) :
    Calls Tryz.prog 75 #[.func (.func 76) #[] #[], .slice a l.length c] w fun e w' => e = .returned (.bool (riseF ordR l)) ∧ Below w.heap.size w w' := by
  have hcap := hl.cap
  have hri := Lib.hid (rise_iff ordR l)
  replace hok := Lib.hid hok
  replace hl := Lib.hid hl
  go_enter Tryz.func75, Tryz.ntmps75
  go_wp2
  go_loopw [8] (fun iv wr => ∃ i : Nat, iv = .int .i64 i ∧ i ≤ l.length ∧ Hid (∀ j (h : j + 1 < l.length), j + 1 < i → ordR l[j] l[j + 1] < 0) ∧ Hid (Below w.heap.size w wr)) (fun iv _ => l.length - (intOf iv).toNat)
  case atStart => exact ⟨0, rfl, by omega, Lib.hid fun j _ h => by omega, Lib.hid (xrefl w)⟩
  case round =>
    obtain ⟨i, rfl, hi, hs, hb⟩ := hrel
    by_cases hlt : i < l.length
    · have hltI : (i : Int) < l.length := by omega
      have hwi : IntKind.i64.wrap ((i : Int) + 1) = (i : Int) + 1 := by simp [IntKind.wrap, IntKind.bits, IntKind.signed]; omega
      obtain ⟨g, o, rfl, hri2⟩ := (hl.out.below hb.out).elt i hlt
      by_cases hi0 : i = 0
      · have hi0I : ¬ (i : Int) > 0 := by omega
        have hnew : Hid (∀ j (h : j + 1 < l.length), j + 1 < i + 1 → ordR l[j] l[j + 1] < 0) := Lib.hid fun j h hj => by omega
        clear hi0 hri2 hri
        go_wp2
        refine' wp_region_growL 16 [fixd (.int .i64 i), fixd (.bool false), fixd (.bool false), fixd undef, fixd undef, fixd undef, fixd undef, fixd undef, fixd undef, fixd undef, fixd undef, fixd undef, fixd undef, fixd undef, fixd undef, fixd (.bool false)] (by kernel_rfl) (by kernel_rfl) ?_
        simp only [List.take_succ_cons, List.take_zero, List.drop_succ_cons, List.drop_zero]
        try simp only [Act.put, List.setIfInBounds_toArray, List.set_cons_succ, List.set_cons_zero, List.nil_append, List.cons_append]
        apply wpGrowV_fix (.int .i64 i) rfl rfl
        · intro W hb hF
          go_simp
          first | exact xrefl W | exact ⟨rfl, xrefl W⟩ | exact ⟨by omega, xrefl W⟩
        try simp only [Act.put, List.setIfInBounds_toArray, List.set_cons_succ, List.set_cons_zero, List.nil_append, List.cons_append]
        apply wpGrowV_fix (.bool false) rfl rfl
        · intro W hb hF
          go_simp
          first | exact xrefl W | exact ⟨rfl, xrefl W⟩ | exact ⟨by omega, xrefl W⟩
        try simp only [Act.put, List.setIfInBounds_toArray, List.set_cons_succ, List.set_cons_zero, List.nil_append, List.cons_append]
        apply wpGrowV_fix (.bool false) rfl rfl
        · intro W hb hF
          go_simp
          first | exact xrefl W | exact ⟨rfl, xrefl W⟩ | exact ⟨by omega, xrefl W⟩
        try simp only [Act.put, List.setIfInBounds_toArray, List.set_cons_succ, List.set_cons_zero, List.nil_append, List.cons_append]
        refine wpGrowV_not rfl rfl ?_
        try simp only [Act.put, List.setIfInBounds_toArray, List.set_cons_succ, List.set_cons_zero, List.nil_append, List.cons_append]
        refine wpGrowV_not rfl rfl ?_
        try simp only [Act.put, List.setIfInBounds_toArray, List.set_cons_succ, List.set_cons_zero, List.nil_append, List.cons_append]
        refine wpGrowV_not rfl rfl ?_
        try simp only [Act.put, List.setIfInBounds_toArray, List.set_cons_succ, List.set_cons_zero, List.nil_append, List.cons_append]
        refine wpGrowV_not rfl rfl ?_
        try simp only [Act.put, List.setIfInBounds_toArray, List.set_cons_succ, List.set_cons_zero, List.nil_append, List.cons_append]
        refine wpGrowV_not rfl rfl ?_
        try simp only [Act.put, List.setIfInBounds_toArray, List.set_cons_succ, List.set_cons_zero, List.nil_append, List.cons_append]
        refine wpGrowV_not rfl rfl ?_
        try simp only [Act.put, List.setIfInBounds_toArray, List.set_cons_succ, List.set_cons_zero, List.nil_append, List.cons_append]
        refine wpGrowV_not rfl rfl ?_
        try simp only [Act.put, List.setIfInBounds_toArray, List.set_cons_succ, List.set_cons_zero, List.nil_append, List.cons_append]
        refine wpGrowV_not rfl rfl ?_
        try simp only [Act.put, List.setIfInBounds_toArray, List.set_cons_succ, List.set_cons_zero, List.nil_append, List.cons_append]
        refine wpGrowV_not rfl rfl ?_
        try simp only [Act.put, List.setIfInBounds_toArray, List.set_cons_succ, List.set_cons_zero, List.nil_append, List.cons_append]
        refine wpGrowV_not rfl rfl ?_
        try simp only [Act.put, List.setIfInBounds_toArray, List.set_cons_succ, List.set_cons_zero, List.nil_append, List.cons_append]
        refine wpGrowV_not rfl rfl ?_
        try simp only [Act.put, List.setIfInBounds_toArray, List.set_cons_succ, List.set_cons_zero, List.nil_append, List.cons_append]
        refine wpGrowV_not rfl rfl ?_
        try simp only [Act.put, List.setIfInBounds_toArray, List.set_cons_succ, List.set_cons_zero, List.nil_append, List.cons_append]
        apply wpGrowV_fix (.bool false) rfl rfl
        · intro W hb hF
          go_simp
          first | exact xrefl W | exact ⟨rfl, xrefl W⟩ | exact ⟨by omega, xrefl W⟩
        try simp only [Act.put, List.setIfInBounds_toArray, List.set_cons_succ, List.set_cons_zero, List.nil_append, List.cons_append]
        intro W hbW _
        replace hb := Lib.hid (xtrans hb.out hbW)
        go_wp2
        exact ⟨⟨i + 1, by first | rfl | simp, by omega, hnew, hb⟩, by simp [intOf]; omega⟩
      · have hi0I : (i : Int) > 0 := by omega
        obtain ⟨k, hk⟩ : ∃ k, i = k + 1 := ⟨i - 1, by omega⟩
        have hkl : k < l.length := by omega
        obtain ⟨g2, o2, e2, hrk⟩ := (hl.out.below hb.out).elt k hkl
        cases e2
        have hxi := Lib.hid (hok.out _ (List.getElem_mem hlt))
        have hxk := Lib.hid (hok.out _ (List.getElem_mem hkl))
        have hsub : IntKind.i64.wrap ((i : Int) - 1) = (k : Int) := by subst hk; simp [IntKind.wrap, IntKind.bits, IntKind.signed]; omega
        have hwk : IntKind.i64.wrap (k : Int) = (k : Int) := by simp [IntKind.wrap, IntKind.bits, IntKind.signed]; omega
        have hkI : (k : Int) < l.length := by omega
        have hnew : Hid (ordR l[k] l[i] < 0 → ∀ j (h : j + 1 < l.length), j + 1 < i + 1 → ordR l[j] l[j + 1] < 0) := Lib.hid fun h0 j h hj => by
          by_cases e : j + 1 = i
          · subst e
            obtain rfl : j = k := by omega
            exact h0
          · exact hs.out j h (by omega)
        have hbd : Hid (¬ ordR l[k] l[i] < 0 → riseF ordR l = false) := Lib.hid fun h0 => by
          cases hr : riseF ordR l with
          | false => rfl
          | true =>
            subst hk
            exact absurd (hri.out.1 hr k hlt) h0
        generalize l[k] = xk at *
        generalize l[i] = xi at *
        replace hrk := Lib.hid hrk
        replace hri := Lib.hid hri2
        clear hk hi0 hs hri2
        by_cases hn : ordR xk xi < 0
        · have hn2 : ¬ (0 : Int) ≤ ordR xk xi := by omega
          replace hnew := Lib.hid (hnew.out hn)
          clear hbd
          go_wp2
          refine' wp_region_growL 16 [fixd (.int .i64 i), fixd (.bool true), fixd (.bool true), fixd (.func (.func 76) #[] #[]), fixd (.slice (some ⟨g, o, none⟩) l.length c), fixd (.int .i64 i), fixd (.int .i64 k), fixd (.pointer (some ⟨g, o + k * 22, none⟩)), fixd (.agg (relC xk).toArray), fixd (.slice (some ⟨g, o, none⟩) l.length c), fixd (.int .i64 i), fixd (.pointer (some ⟨g, o + i * 22, none⟩)), fixd (.agg (relC xi).toArray), fixd (.int .i64 (ordR xk xi)), fixd (.bool false), fixd (.bool false)] (by kernel_rfl) (by kernel_rfl) ?_
          simp only [List.take_succ_cons, List.take_zero, List.drop_succ_cons, List.drop_zero]
          try simp only [Act.put, List.setIfInBounds_toArray, List.set_cons_succ, List.set_cons_zero, List.nil_append, List.cons_append]
          apply wpGrowV_fix (.int .i64 i) rfl rfl
          · intro W hb hF
            go_simp
            first | exact xrefl W | exact ⟨rfl, xrefl W⟩ | exact ⟨by omega, xrefl W⟩
          try simp only [Act.put, List.setIfInBounds_toArray, List.set_cons_succ, List.set_cons_zero, List.nil_append, List.cons_append]
          apply wpGrowV_fix (.bool true) rfl rfl
          · intro W hb hF
            go_simp
            first | exact xrefl W | exact ⟨rfl, xrefl W⟩ | exact ⟨by omega, xrefl W⟩
          try simp only [Act.put, List.setIfInBounds_toArray, List.set_cons_succ, List.set_cons_zero, List.nil_append, List.cons_append]
          apply wpGrowV_fix (.bool true) rfl rfl
          · intro W hb hF
            go_simp
            first | exact xrefl W | exact ⟨rfl, xrefl W⟩ | exact ⟨by omega, xrefl W⟩
          try simp only [Act.put, List.setIfInBounds_toArray, List.set_cons_succ, List.set_cons_zero, List.nil_append, List.cons_append]
          apply wpGrowV_fix (.func (.func 76) #[] #[]) rfl rfl
          · intro W hb hF
            go_simp
            first | exact xrefl W | exact ⟨rfl, xrefl W⟩ | exact ⟨by omega, xrefl W⟩
          try simp only [Act.put, List.setIfInBounds_toArray, List.set_cons_succ, List.set_cons_zero, List.nil_append, List.cons_append]
          apply wpGrowV_fix (.slice (some ⟨g, o, none⟩) l.length c) rfl rfl
          · intro W hb hF
            go_simp
            first | exact xrefl W | exact ⟨rfl, xrefl W⟩ | exact ⟨by omega, xrefl W⟩
          try simp only [Act.put, List.setIfInBounds_toArray, List.set_cons_succ, List.set_cons_zero, List.nil_append, List.cons_append]
          apply wpGrowV_fix (.int .i64 i) rfl rfl
          · intro W hb hF
            go_simp
            first | exact xrefl W | exact ⟨rfl, xrefl W⟩ | exact ⟨by omega, xrefl W⟩
          try simp only [Act.put, List.setIfInBounds_toArray, List.set_cons_succ, List.set_cons_zero, List.nil_append, List.cons_append]
          apply wpGrowV_fix (.int .i64 k) rfl rfl
          · intro W hb hF
            go_simp
            first | exact xrefl W | exact ⟨rfl, xrefl W⟩ | exact ⟨by omega, xrefl W⟩
          try simp only [Act.put, List.setIfInBounds_toArray, List.set_cons_succ, List.set_cons_zero, List.nil_append, List.cons_append]
          apply wpGrowV_fix (.pointer (some ⟨g, o + k * 22, none⟩)) rfl rfl
          · intro W hb hF
            go_simp
            first | exact xrefl W | exact ⟨rfl, xrefl W⟩ | exact ⟨by omega, xrefl W⟩
          try simp only [Act.put, List.setIfInBounds_toArray, List.set_cons_succ, List.set_cons_zero, List.nil_append, List.cons_append]
          apply wpGrowV_fix (.agg (relC xk).toArray) rfl rfl
          · intro W hb hF
            rw [run_load_midV 67 _ rfl (g) (o + k * 22) rfl (relC xk) _ (fun j v hj => cbel hb (hrk.out j v hj)) Tryz.underlying67 rfl (by rw [relC_len hxk.out]; kernel_rfl)]
            exact ⟨rfl, xrefl W⟩
          try simp only [Act.put, List.setIfInBounds_toArray, List.set_cons_succ, List.set_cons_zero, List.nil_append, List.cons_append]
          apply wpGrowV_fix (.slice (some ⟨g, o, none⟩) l.length c) rfl rfl
          · intro W hb hF
            go_simp
            first | exact xrefl W | exact ⟨rfl, xrefl W⟩ | exact ⟨by omega, xrefl W⟩
          try simp only [Act.put, List.setIfInBounds_toArray, List.set_cons_succ, List.set_cons_zero, List.nil_append, List.cons_append]
          apply wpGrowV_fix (.int .i64 i) rfl rfl
          · intro W hb hF
            go_simp
            first | exact xrefl W | exact ⟨rfl, xrefl W⟩ | exact ⟨by omega, xrefl W⟩
          try simp only [Act.put, List.setIfInBounds_toArray, List.set_cons_succ, List.set_cons_zero, List.nil_append, List.cons_append]
          apply wpGrowV_fix (.pointer (some ⟨g, o + i * 22, none⟩)) rfl rfl
          · intro W hb hF
            go_simp
            first | exact xrefl W | exact ⟨rfl, xrefl W⟩ | exact ⟨by omega, xrefl W⟩
          try simp only [Act.put, List.setIfInBounds_toArray, List.set_cons_succ, List.set_cons_zero, List.nil_append, List.cons_append]
          apply wpGrowV_fix (.agg (relC xi).toArray) rfl rfl
          · intro W hb hF
            rw [run_load_midV 67 _ rfl (g) (o + i * 22) rfl (relC xi) _ (fun j v hj => cbel hb (hri.out j v hj)) Tryz.underlying67 rfl (by rw [relC_len hxi.out]; kernel_rfl)]
            exact ⟨rfl, xrefl W⟩
          try simp only [Act.put, List.setIfInBounds_toArray, List.set_cons_succ, List.set_cons_zero, List.nil_append, List.cons_append]
          apply wpGrowV_fix (.int .i64 (ordR xk xi)) rfl rfl
          · intro W hb hF
            go_simp
            go_at_call 76
            refine (right2_any xk xi W hxk.out hxi.out).mono ?_
            rintro e w' ⟨rfl, hb'⟩
            exact ⟨rfl, hb'⟩
          try simp only [Act.put, List.setIfInBounds_toArray, List.set_cons_succ, List.set_cons_zero, List.nil_append, List.cons_append]
          apply wpGrowV_fix (.bool false) rfl rfl
          · intro W hb hF
            go_simp
            first | exact xrefl W | exact ⟨rfl, xrefl W⟩ | exact ⟨by omega, xrefl W⟩
          try simp only [Act.put, List.setIfInBounds_toArray, List.set_cons_succ, List.set_cons_zero, List.nil_append, List.cons_append]
          apply wpGrowV_fix (.bool false) rfl rfl
          · intro W hb hF
            go_simp
            first | exact xrefl W | exact ⟨rfl, xrefl W⟩ | exact ⟨by omega, xrefl W⟩
          try simp only [Act.put, List.setIfInBounds_toArray, List.set_cons_succ, List.set_cons_zero, List.nil_append, List.cons_append]
          intro W hbW _
          replace hb := Lib.hid (xtrans hb.out hbW)
          go_wp2
          exact ⟨⟨i + 1, by first | rfl | simp, by omega, hnew, hb⟩, by simp [intOf]; omega⟩
        · have hn2 : (0 : Int) ≤ ordR xk xi := by omega
          replace hbd := Lib.hid (hbd.out hn)
          go_wp2
          refine' wp_region_growL 16 [fixd (.int .i64 i), fixd (.bool true), fixd (.bool true), fixd (.func (.func 76) #[] #[]), fixd (.slice (some ⟨g, o, none⟩) l.length c), fixd (.int .i64 i), fixd (.int .i64 k), fixd (.pointer (some ⟨g, o + k * 22, none⟩)), fixd (.agg (relC xk).toArray), fixd (.slice (some ⟨g, o, none⟩) l.length c), fixd (.int .i64 i), fixd (.pointer (some ⟨g, o + i * 22, none⟩)), fixd (.agg (relC xi).toArray), fixd (.int .i64 (ordR xk xi)), fixd (.bool true), fixd (.bool true)] (by kernel_rfl) (by kernel_rfl) ?_
          simp only [List.take_succ_cons, List.take_zero, List.drop_succ_cons, List.drop_zero]
          try simp only [Act.put, List.setIfInBounds_toArray, List.set_cons_succ, List.set_cons_zero, List.nil_append, List.cons_append]
          apply wpGrowV_fix (.int .i64 i) rfl rfl
          · intro W hb hF
            go_simp
            first | exact xrefl W | exact ⟨rfl, xrefl W⟩ | exact ⟨by omega, xrefl W⟩
          try simp only [Act.put, List.setIfInBounds_toArray, List.set_cons_succ, List.set_cons_zero, List.nil_append, List.cons_append]
          apply wpGrowV_fix (.bool true) rfl rfl
          · intro W hb hF
            go_simp
            first | exact xrefl W | exact ⟨rfl, xrefl W⟩ | exact ⟨by omega, xrefl W⟩
          try simp only [Act.put, List.setIfInBounds_toArray, List.set_cons_succ, List.set_cons_zero, List.nil_append, List.cons_append]
          apply wpGrowV_fix (.bool true) rfl rfl
          · intro W hb hF
            go_simp
            first | exact xrefl W | exact ⟨rfl, xrefl W⟩ | exact ⟨by omega, xrefl W⟩
          try simp only [Act.put, List.setIfInBounds_toArray, List.set_cons_succ, List.set_cons_zero, List.nil_append, List.cons_append]
          apply wpGrowV_fix (.func (.func 76) #[] #[]) rfl rfl
          · intro W hb hF
            go_simp
            first | exact xrefl W | exact ⟨rfl, xrefl W⟩ | exact ⟨by omega, xrefl W⟩
          try simp only [Act.put, List.setIfInBounds_toArray, List.set_cons_succ, List.set_cons_zero, List.nil_append, List.cons_append]
          apply wpGrowV_fix (.slice (some ⟨g, o, none⟩) l.length c) rfl rfl
          · intro W hb hF
            go_simp
            first | exact xrefl W | exact ⟨rfl, xrefl W⟩ | exact ⟨by omega, xrefl W⟩
          try simp only [Act.put, List.setIfInBounds_toArray, List.set_cons_succ, List.set_cons_zero, List.nil_append, List.cons_append]
          apply wpGrowV_fix (.int .i64 i) rfl rfl
          · intro W hb hF
            go_simp
            first | exact xrefl W | exact ⟨rfl, xrefl W⟩ | exact ⟨by omega, xrefl W⟩
          try simp only [Act.put, List.setIfInBounds_toArray, List.set_cons_succ, List.set_cons_zero, List.nil_append, List.cons_append]
          apply wpGrowV_fix (.int .i64 k) rfl rfl
          · intro W hb hF
            go_simp
            first | exact xrefl W | exact ⟨rfl, xrefl W⟩ | exact ⟨by omega, xrefl W⟩
          try simp only [Act.put, List.setIfInBounds_toArray, List.set_cons_succ, List.set_cons_zero, List.nil_append, List.cons_append]
          apply wpGrowV_fix (.pointer (some ⟨g, o + k * 22, none⟩)) rfl rfl
          · intro W hb hF
            go_simp
            first | exact xrefl W | exact ⟨rfl, xrefl W⟩ | exact ⟨by omega, xrefl W⟩
          try simp only [Act.put, List.setIfInBounds_toArray, List.set_cons_succ, List.set_cons_zero, List.nil_append, List.cons_append]
          apply wpGrowV_fix (.agg (relC xk).toArray) rfl rfl
          · intro W hb hF
            rw [run_load_midV 67 _ rfl (g) (o + k * 22) rfl (relC xk) _ (fun j v hj => cbel hb (hrk.out j v hj)) Tryz.underlying67 rfl (by rw [relC_len hxk.out]; kernel_rfl)]
            exact ⟨rfl, xrefl W⟩
          try simp only [Act.put, List.setIfInBounds_toArray, List.set_cons_succ, List.set_cons_zero, List.nil_append, List.cons_append]
          apply wpGrowV_fix (.slice (some ⟨g, o, none⟩) l.length c) rfl rfl
          · intro W hb hF
            go_simp
            first | exact xrefl W | exact ⟨rfl, xrefl W⟩ | exact ⟨by omega, xrefl W⟩
          try simp only [Act.put, List.setIfInBounds_toArray, List.set_cons_succ, List.set_cons_zero, List.nil_append, List.cons_append]
          apply wpGrowV_fix (.int .i64 i) rfl rfl
          · intro W hb hF
            go_simp
            first | exact xrefl W | exact ⟨rfl, xrefl W⟩ | exact ⟨by omega, xrefl W⟩
          try simp only [Act.put, List.setIfInBounds_toArray, List.set_cons_succ, List.set_cons_zero, List.nil_append, List.cons_append]
          apply wpGrowV_fix (.pointer (some ⟨g, o + i * 22, none⟩)) rfl rfl
          · intro W hb hF
            go_simp
            first | exact xrefl W | exact ⟨rfl, xrefl W⟩ | exact ⟨by omega, xrefl W⟩
          try simp only [Act.put, List.setIfInBounds_toArray, List.set_cons_succ, List.set_cons_zero, List.nil_append, List.cons_append]
          apply wpGrowV_fix (.agg (relC xi).toArray) rfl rfl
          · intro W hb hF
            rw [run_load_midV 67 _ rfl (g) (o + i * 22) rfl (relC xi) _ (fun j v hj => cbel hb (hri.out j v hj)) Tryz.underlying67 rfl (by rw [relC_len hxi.out]; kernel_rfl)]
            exact ⟨rfl, xrefl W⟩
          try simp only [Act.put, List.setIfInBounds_toArray, List.set_cons_succ, List.set_cons_zero, List.nil_append, List.cons_append]
          apply wpGrowV_fix (.int .i64 (ordR xk xi)) rfl rfl
          · intro W hb hF
            go_simp
            go_at_call 76
            refine (right2_any xk xi W hxk.out hxi.out).mono ?_
            rintro e w' ⟨rfl, hb'⟩
            exact ⟨rfl, hb'⟩
          try simp only [Act.put, List.setIfInBounds_toArray, List.set_cons_succ, List.set_cons_zero, List.nil_append, List.cons_append]
          apply wpGrowV_fix (.bool true) rfl rfl
          · intro W hb hF
            go_simp
            first | exact xrefl W | exact ⟨rfl, xrefl W⟩ | exact ⟨by omega, xrefl W⟩
          try simp only [Act.put, List.setIfInBounds_toArray, List.set_cons_succ, List.set_cons_zero, List.nil_append, List.cons_append]
          apply wpGrowV_fix (.bool true) rfl rfl
          · intro W hb hF
            go_simp
            first | exact xrefl W | exact ⟨rfl, xrefl W⟩ | exact ⟨by omega, xrefl W⟩
          try simp only [Act.put, List.setIfInBounds_toArray, List.set_cons_succ, List.set_cons_zero, List.nil_append, List.cons_append]
          intro W hbW _
          replace hb := Lib.hid (xtrans hb.out hbW)
          go_wp2
          go_ret
          exact ⟨by rw [hbd.out]; rfl, hb.out⟩
    · obtain rfl : i = l.length := by omega
      have hfin := Lib.hid (hri.out.2 fun j h => hs.out j h h)
      clear hlt
      go_wp2
      go_ret
      exact ⟨by rw [hfin.out]; rfl, hb.out⟩
end Go.Proofs.YthpallkphamobaaGreatDoor
