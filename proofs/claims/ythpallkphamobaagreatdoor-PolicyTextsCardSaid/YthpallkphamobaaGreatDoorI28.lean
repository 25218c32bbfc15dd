/- Texts of this claim, merged; no condition. -/
import Derived.Test.YthpallkphamobaaGreatDoorI27
set_option linter.all false
namespace Go.Proofs.YthpallkphamobaaGreatDoor
open Go.RowKit Go.Shelf

theorem neq_of_eql {P : Program} {w : World} {t : TypeId} {xs ys : Array Value} {r : Bool} (h : (binOp .eql t (.agg xs) (.agg ys)).run P w = .ok (.bool r) w) : (binOp .neq t (.agg xs) (.agg ys)).run P w = .ok (.bool (!r)) w := by
  rw [run_eql_struct] at h
  rw [run_neq_struct]
  cases hq : (Op.equalIn 10000 t (.agg xs) (.agg ys)).run P w with
  | ok b w' =>
    rw [hq] at h
    simp only [Result.andThen_ok] at h ⊢
    injection h with h1 h2
    injection h1 with h1
    rw [h1, h2]
  | _ => rw [hq] at h; simp [Result.andThen] at h
theorem exec_neq_clearC {o : Oper} {ac : Act} {w : World} (x y : Operand) (ho : o.op = .binOp .neq 65 x y 65) (a b : List Nat × BitVec 64) (ha : Adr a.1) (hb : Adr b.1) (hx : ac.eval x = .agg (clearC a).toArray) (hy : ac.eval y = .agg (clearC b).toArray) : (execOp ac.eval o).run Tryz.prog w = .ok (.value (.bool (!decide (a = b)))) w := by
  have h := neq_of_eql (eql_clear a b ha hb w)
  unfold execOp
  simp only [ho, hx, hy, Sem.run_bind, Sem.run_pure, Result.andThen_ok, run_eqGuard_agg (hm := (by kernel_rfl : Tryz.prog.eqGuardType Tryz.prog.depth 65 = false))]
  simp only [h, Result.andThen_ok]
set_option maxRecDepth 100000 in
set_option maxHeartbeats 4000000 in
theorem equal_clearC_any (l m : List (List Nat × BitVec 64)) (a b : Option Addr) (c d : Nat) (w : World) (hl : RowsAt 21 clearC w a c l) (hm : RowsAt 21 clearC w b d m) (hlen : l.length ≤ 1000000) (hlen2 : m.length ≤ 1000000) (ha : ∀ x ∈ l, Adr x.1) (hb : ∀ x ∈ m, Adr x.1) :
    Calls Tryz.prog 70 #[.slice a l.length c, .slice b m.length d] w fun e w' => e = .returned (.bool (decide (l = m))) ∧ Below w.heap.size w w' := by
  have hcap := hl.cap
  have hcap2 := hm.cap
  by_cases hlm : l.length = m.length
  · have hlmI : (l.length : Int) = m.length := by omega
    replace hl := Lib.hid hl
    replace hm := Lib.hid hm
    replace ha := Lib.hid ha
    replace hb := Lib.hid hb
    generalize hn2 : m.length = n2 at *
    subst hlm
    replace hn2 := Lib.hid hn2
    have hrw := Lib.hid fun x (hx : Adr x.1) => (clearC_len hx : (clearC x).length = 21)
    clear hlmI
    go_enter Tryz.func70, Tryz.ntmps70
    go_wp2
    go_loopw [13] (fun iv wr => ∃ i : Nat, iv = .int .i64 i ∧ i ≤ l.length ∧ Hid (l.take i = m.take i) ∧ Hid (Below w.heap.size w wr)) (fun iv _ => l.length - (intOf iv).toNat)
    case atStart => exact ⟨0, rfl, by omega, Lib.hid rfl, Lib.hid (xrefl w)⟩
    case round =>
      obtain ⟨i, rfl, hi, hs, hbw⟩ := hrel
      by_cases hlt : i < l.length
      · have hltI : (i : Int) < l.length := by omega
        have hlt2 : i < m.length := by rw [hn2.out]; exact hlt
        obtain ⟨g, o, rfl, hr⟩ := (hl.out.below hbw.out).elt i hlt
        obtain ⟨g2, o2, rfl, hr2⟩ := (hm.out.below hbw.out).elt i hlt2
        have hx := Lib.hid (ha.out _ (List.getElem_mem hlt))
        have hy := Lib.hid (hb.out _ (List.getElem_mem hlt2))
        have hlx := Lib.hid (hrw.out _ hx.out)
        have hly := Lib.hid (hrw.out _ hy.out)
        have hnext : Hid (l[i] = m[i] → l.take (i + 1) = m.take (i + 1)) := Lib.hid fun h0 => by
          rw [List.take_succ_eq_append_getElem hlt, List.take_succ_eq_append_getElem hlt2, hs.out, h0]
        have hnot : Hid (l[i] ≠ m[i] → l ≠ m) := Lib.hid fun h0 h => h0 (by subst h; rfl)
        have hwi : IntKind.i64.wrap ((i : Int) + 1) = (i : Int) + 1 := by simp [IntKind.wrap, IntKind.bits, IntKind.signed]; omega
        generalize l[i] = x at *
        generalize m[i] = y at *
        replace hr := Lib.hid hr
        replace hr2 := Lib.hid hr2
        clear hlt2
        by_cases hxy : x = y
        · replace hnext := Lib.hid (hnext.out hxy)
          have hd : Hid ((!decide (x = y)) = false) := Lib.hid (by simp [hxy])
          replace hxy := Lib.hid hxy
          clear hnot
          go_upto_region 6 with fail
          refine' wp_region_growL 9 [fixd (.slice (some ⟨g, o, none⟩) l.length c), fixd (.int .i64 i), fixd (.pointer (some ⟨g, o + i * 21, none⟩)), fixd (.agg (clearC x).toArray), fixd (.slice (some ⟨g2, o2, none⟩) l.length d), fixd (.int .i64 i), fixd (.pointer (some ⟨g2, o2 + i * 21, none⟩)), fixd (.agg (clearC y).toArray), fixd (.bool false)] (by kernel_rfl) (by kernel_rfl) ?_
          simp only [List.take_succ_cons, List.take_zero, List.drop_succ_cons, List.drop_zero]
          try simp only [Act.put, List.setIfInBounds_toArray, List.set_cons_succ, List.set_cons_zero, List.nil_append, List.cons_append]
          apply wpGrowV_fix (.slice (some ⟨g, o, none⟩) l.length c) rfl rfl
          · intro W hb hF
            go_simp
            first | exact xrefl W | exact ⟨rfl, xrefl W⟩ | exact ⟨by omega, xrefl W⟩
          try simp only [Act.put, List.setIfInBounds_toArray, List.set_cons_succ, List.set_cons_zero, List.nil_append, List.cons_append]
          apply wpGrowV_fix (.int .i64 i) rfl rfl
          · intro W hb hF
            go_simp
            first | exact xrefl W | exact ⟨rfl, xrefl W⟩ | exact ⟨by omega, xrefl W⟩
          try simp only [Act.put, List.setIfInBounds_toArray, List.set_cons_succ, List.set_cons_zero, List.nil_append, List.cons_append]
          apply wpGrowV_fix (.pointer (some ⟨g, o + i * 21, none⟩)) rfl rfl
          · intro W hb hF
            go_simp
            first | exact xrefl W | exact ⟨rfl, xrefl W⟩ | exact ⟨by omega, xrefl W⟩
          try simp only [Act.put, List.setIfInBounds_toArray, List.set_cons_succ, List.set_cons_zero, List.nil_append, List.cons_append]
          apply wpGrowV_fix (.agg (clearC x).toArray) rfl rfl
          · intro W hb hF
            rw [run_load_midV 65 _ rfl (g) (o + i * 21) rfl (clearC x) _ (fun j v hj => cbel hb (hr.out j v hj)) Tryz.underlying65 rfl (by rw [hlx.out]; kernel_rfl)]
            exact ⟨rfl, xrefl W⟩
          try simp only [Act.put, List.setIfInBounds_toArray, List.set_cons_succ, List.set_cons_zero, List.nil_append, List.cons_append]
          apply wpGrowV_fix (.slice (some ⟨g2, o2, none⟩) l.length d) rfl rfl
          · intro W hb hF
            go_simp
            first | exact xrefl W | exact ⟨rfl, xrefl W⟩ | exact ⟨by omega, xrefl W⟩
          try simp only [Act.put, List.setIfInBounds_toArray, List.set_cons_succ, List.set_cons_zero, List.nil_append, List.cons_append]
          apply wpGrowV_fix (.int .i64 i) rfl rfl
          · intro W hb hF
            go_simp
            first | exact xrefl W | exact ⟨rfl, xrefl W⟩ | exact ⟨by omega, xrefl W⟩
          try simp only [Act.put, List.setIfInBounds_toArray, List.set_cons_succ, List.set_cons_zero, List.nil_append, List.cons_append]
          apply wpGrowV_fix (.pointer (some ⟨g2, o2 + i * 21, none⟩)) rfl rfl
          · intro W hb hF
            go_simp
            first | exact xrefl W | exact ⟨rfl, xrefl W⟩ | exact ⟨by omega, xrefl W⟩
          try simp only [Act.put, List.setIfInBounds_toArray, List.set_cons_succ, List.set_cons_zero, List.nil_append, List.cons_append]
          apply wpGrowV_fix (.agg (clearC y).toArray) rfl rfl
          · intro W hb hF
            rw [run_load_midV 65 _ rfl (g2) (o2 + i * 21) rfl (clearC y) _ (fun j v hj => cbel hb (hr2.out j v hj)) Tryz.underlying65 rfl (by rw [hly.out]; kernel_rfl)]
            exact ⟨rfl, xrefl W⟩
          try simp only [Act.put, List.setIfInBounds_toArray, List.set_cons_succ, List.set_cons_zero, List.nil_append, List.cons_append]
          apply wpGrowV_fix (.bool false) rfl rfl
          · intro W hb hF
            exact grows_okP ((exec_neq_clearC _ _ rfl x y hx.out hy.out rfl rfl).trans (by rw [hd.out])) (xrefl W)
          try simp only [Act.put, List.setIfInBounds_toArray, List.set_cons_succ, List.set_cons_zero, List.nil_append, List.cons_append]
          refine wpGrowV_nil fun W3 hb3 _ => ?_
          replace hb3 := Lib.hid (xtrans hbw.out hb3)
          go_wp2
          exact ⟨⟨i + 1, by first | rfl | simp, by omega, hnext, hb3⟩, by simp [intOf]; omega⟩
        · replace hnot := Lib.hid (hnot.out hxy)
          have hd : Hid ((!decide (x = y)) = true) := Lib.hid (by simp [hxy])
          replace hxy := Lib.hid hxy
          clear hnext
          go_upto_region 6 with fail
          refine' wp_region_growL 9 [fixd (.slice (some ⟨g, o, none⟩) l.length c), fixd (.int .i64 i), fixd (.pointer (some ⟨g, o + i * 21, none⟩)), fixd (.agg (clearC x).toArray), fixd (.slice (some ⟨g2, o2, none⟩) l.length d), fixd (.int .i64 i), fixd (.pointer (some ⟨g2, o2 + i * 21, none⟩)), fixd (.agg (clearC y).toArray), fixd (.bool true)] (by kernel_rfl) (by kernel_rfl) ?_
          simp only [List.take_succ_cons, List.take_zero, List.drop_succ_cons, List.drop_zero]
          try simp only [Act.put, List.setIfInBounds_toArray, List.set_cons_succ, List.set_cons_zero, List.nil_append, List.cons_append]
          apply wpGrowV_fix (.slice (some ⟨g, o, none⟩) l.length c) rfl rfl
          · intro W hb hF
            go_simp
            first | exact xrefl W | exact ⟨rfl, xrefl W⟩ | exact ⟨by omega, xrefl W⟩
          try simp only [Act.put, List.setIfInBounds_toArray, List.set_cons_succ, List.set_cons_zero, List.nil_append, List.cons_append]
          apply wpGrowV_fix (.int .i64 i) rfl rfl
          · intro W hb hF
            go_simp
            first | exact xrefl W | exact ⟨rfl, xrefl W⟩ | exact ⟨by omega, xrefl W⟩
          try simp only [Act.put, List.setIfInBounds_toArray, List.set_cons_succ, List.set_cons_zero, List.nil_append, List.cons_append]
          apply wpGrowV_fix (.pointer (some ⟨g, o + i * 21, none⟩)) rfl rfl
          · intro W hb hF
            go_simp
            first | exact xrefl W | exact ⟨rfl, xrefl W⟩ | exact ⟨by omega, xrefl W⟩
          try simp only [Act.put, List.setIfInBounds_toArray, List.set_cons_succ, List.set_cons_zero, List.nil_append, List.cons_append]
          apply wpGrowV_fix (.agg (clearC x).toArray) rfl rfl
          · intro W hb hF
            rw [run_load_midV 65 _ rfl (g) (o + i * 21) rfl (clearC x) _ (fun j v hj => cbel hb (hr.out j v hj)) Tryz.underlying65 rfl (by rw [hlx.out]; kernel_rfl)]
            exact ⟨rfl, xrefl W⟩
          try simp only [Act.put, List.setIfInBounds_toArray, List.set_cons_succ, List.set_cons_zero, List.nil_append, List.cons_append]
          apply wpGrowV_fix (.slice (some ⟨g2, o2, none⟩) l.length d) rfl rfl
          · intro W hb hF
            go_simp
            first | exact xrefl W | exact ⟨rfl, xrefl W⟩ | exact ⟨by omega, xrefl W⟩
          try simp only [Act.put, List.setIfInBounds_toArray, List.set_cons_succ, List.set_cons_zero, List.nil_append, List.cons_append]
          apply wpGrowV_fix (.int .i64 i) rfl rfl
          · intro W hb hF
            go_simp
            first | exact xrefl W | exact ⟨rfl, xrefl W⟩ | exact ⟨by omega, xrefl W⟩
          try simp only [Act.put, List.setIfInBounds_toArray, List.set_cons_succ, List.set_cons_zero, List.nil_append, List.cons_append]
          apply wpGrowV_fix (.pointer (some ⟨g2, o2 + i * 21, none⟩)) rfl rfl
          · intro W hb hF
            go_simp
            first | exact xrefl W | exact ⟨rfl, xrefl W⟩ | exact ⟨by omega, xrefl W⟩
          try simp only [Act.put, List.setIfInBounds_toArray, List.set_cons_succ, List.set_cons_zero, List.nil_append, List.cons_append]
          apply wpGrowV_fix (.agg (clearC y).toArray) rfl rfl
          · intro W hb hF
            rw [run_load_midV 65 _ rfl (g2) (o2 + i * 21) rfl (clearC y) _ (fun j v hj => cbel hb (hr2.out j v hj)) Tryz.underlying65 rfl (by rw [hly.out]; kernel_rfl)]
            exact ⟨rfl, xrefl W⟩
          try simp only [Act.put, List.setIfInBounds_toArray, List.set_cons_succ, List.set_cons_zero, List.nil_append, List.cons_append]
          apply wpGrowV_fix (.bool true) rfl rfl
          · intro W hb hF
            exact grows_okP ((exec_neq_clearC _ _ rfl x y hx.out hy.out rfl rfl).trans (by rw [hd.out])) (xrefl W)
          try simp only [Act.put, List.setIfInBounds_toArray, List.set_cons_succ, List.set_cons_zero, List.nil_append, List.cons_append]
          refine wpGrowV_nil fun W3 hb3 _ => ?_
          replace hb3 := Lib.hid (xtrans hbw.out hb3)
          go_wp2
          go_ret
          exact ⟨by rw [decide_eq_false hnot.out]; rfl, hb3.out⟩
      · obtain rfl : i = l.length := by omega
        have hfin : Hid (l = m) := Lib.hid (by
          have := hs.out
          rwa [List.take_of_length_le (Nat.le_refl _), List.take_of_length_le (by rw [hn2.out]; exact Nat.le_refl _)] at this)
        clear hlt
        go_wp2
        go_ret
        exact ⟨by rw [decide_eq_true hfin.out]; rfl, hbw.out⟩
  · have hlmI : ¬ (l.length : Int) = m.length := by omega
    have hb1 : ((l.length : Int) == m.length) = false := by rw [beq_eq_false_iff_ne]; exact hlmI
    rw [decide_eq_false (fun e => hlm (by rw [e]) : ¬ l = m)]
    clear hl hm
    go_enter Tryz.func70, Tryz.ntmps70
    go_wp2
    go_ret
    exact ⟨rfl, xrefl _⟩
theorem exec_neq_relC {o : Oper} {ac : Act} {w : World} (x y : Operand) (ho : o.op = .binOp .neq 67 x y 67) (a b : List Nat × Nat × BitVec 64) (ha : Adr a.1) (hb : Adr b.1) (hx : ac.eval x = .agg (relC a).toArray) (hy : ac.eval y = .agg (relC b).toArray) : (execOp ac.eval o).run Tryz.prog w = .ok (.value (.bool (!decide (a = b)))) w := by
  have h := neq_of_eql (eql_rel a b ha hb w)
  unfold execOp
  simp only [ho, hx, hy, Sem.run_bind, Sem.run_pure, Result.andThen_ok, run_eqGuard_agg (hm := (by kernel_rfl : Tryz.prog.eqGuardType Tryz.prog.depth 67 = false))]
  simp only [h, Result.andThen_ok]
set_option maxRecDepth 100000 in
set_option maxHeartbeats 4000000 in
theorem equal_relC_any (l m : List (List Nat × Nat × BitVec 64)) (a b : Option Addr) (c d : Nat) (w : World) (hl : RowsAt 22 relC w a c l) (hm : RowsAt 22 relC w b d m) (hlen : l.length ≤ 1000000) (hlen2 : m.length ≤ 1000000) (ha : ∀ x ∈ l, Adr x.1) (hb : ∀ x ∈ m, Adr x.1) :
    Calls Tryz.prog 71 #[.slice a l.length c, .slice b m.length d] w fun e w' => e = .returned (.bool (decide (l = m))) ∧ Below w.heap.size w w' := by
  have hcap := hl.cap
  have hcap2 := hm.cap
  by_cases hlm : l.length = m.length
  · have hlmI : (l.length : Int) = m.length := by omega
    replace hl := Lib.hid hl
    replace hm := Lib.hid hm
    replace ha := Lib.hid ha
    replace hb := Lib.hid hb
    generalize hn2 : m.length = n2 at *
    subst hlm
    replace hn2 := Lib.hid hn2
    have hrw := Lib.hid fun x (hx : Adr x.1) => (relC_len hx : (relC x).length = 22)
    clear hlmI
    go_enter Tryz.func71, Tryz.ntmps71
    go_wp2
    go_loopw [13] (fun iv wr => ∃ i : Nat, iv = .int .i64 i ∧ i ≤ l.length ∧ Hid (l.take i = m.take i) ∧ Hid (Below w.heap.size w wr)) (fun iv _ => l.length - (intOf iv).toNat)
    case atStart => exact ⟨0, rfl, by omega, Lib.hid rfl, Lib.hid (xrefl w)⟩
    case round =>
      obtain ⟨i, rfl, hi, hs, hbw⟩ := hrel
      by_cases hlt : i < l.length
      · have hltI : (i : Int) < l.length := by omega
        have hlt2 : i < m.length := by rw [hn2.out]; exact hlt
        obtain ⟨g, o, rfl, hr⟩ := (hl.out.below hbw.out).elt i hlt
        obtain ⟨g2, o2, rfl, hr2⟩ := (hm.out.below hbw.out).elt i hlt2
        have hx := Lib.hid (ha.out _ (List.getElem_mem hlt))
        have hy := Lib.hid (hb.out _ (List.getElem_mem hlt2))
        have hlx := Lib.hid (hrw.out _ hx.out)
        have hly := Lib.hid (hrw.out _ hy.out)
        have hnext : Hid (l[i] = m[i] → l.take (i + 1) = m.take (i + 1)) := Lib.hid fun h0 => by
          rw [List.take_succ_eq_append_getElem hlt, List.take_succ_eq_append_getElem hlt2, hs.out, h0]
        have hnot : Hid (l[i] ≠ m[i] → l ≠ m) := Lib.hid fun h0 h => h0 (by subst h; rfl)
        have hwi : IntKind.i64.wrap ((i : Int) + 1) = (i : Int) + 1 := by simp [IntKind.wrap, IntKind.bits, IntKind.signed]; omega
        generalize l[i] = x at *
        generalize m[i] = y at *
        replace hr := Lib.hid hr
        replace hr2 := Lib.hid hr2
        clear hlt2
        by_cases hxy : x = y
        · replace hnext := Lib.hid (hnext.out hxy)
          have hd : Hid ((!decide (x = y)) = false) := Lib.hid (by simp [hxy])
          replace hxy := Lib.hid hxy
          clear hnot
          go_upto_region 6 with fail
          refine' wp_region_growL 9 [fixd (.slice (some ⟨g, o, none⟩) l.length c), fixd (.int .i64 i), fixd (.pointer (some ⟨g, o + i * 22, none⟩)), fixd (.agg (relC x).toArray), fixd (.slice (some ⟨g2, o2, none⟩) l.length d), fixd (.int .i64 i), fixd (.pointer (some ⟨g2, o2 + i * 22, none⟩)), fixd (.agg (relC y).toArray), fixd (.bool false)] (by kernel_rfl) (by kernel_rfl) ?_
          simp only [List.take_succ_cons, List.take_zero, List.drop_succ_cons, List.drop_zero]
          try simp only [Act.put, List.setIfInBounds_toArray, List.set_cons_succ, List.set_cons_zero, List.nil_append, List.cons_append]
          apply wpGrowV_fix (.slice (some ⟨g, o, none⟩) l.length c) rfl rfl
          · intro W hb hF
            go_simp
            first | exact xrefl W | exact ⟨rfl, xrefl W⟩ | exact ⟨by omega, xrefl W⟩
          try simp only [Act.put, List.setIfInBounds_toArray, List.set_cons_succ, List.set_cons_zero, List.nil_append, List.cons_append]
          apply wpGrowV_fix (.int .i64 i) rfl rfl
          · intro W hb hF
            go_simp
            first | exact xrefl W | exact ⟨rfl, xrefl W⟩ | exact ⟨by omega, xrefl W⟩
          try simp only [Act.put, List.setIfInBounds_toArray, List.set_cons_succ, List.set_cons_zero, List.nil_append, List.cons_append]
          apply wpGrowV_fix (.pointer (some ⟨g, o + i * 22, none⟩)) rfl rfl
          · intro W hb hF
            go_simp
            first | exact xrefl W | exact ⟨rfl, xrefl W⟩ | exact ⟨by omega, xrefl W⟩
          try simp only [Act.put, List.setIfInBounds_toArray, List.set_cons_succ, List.set_cons_zero, List.nil_append, List.cons_append]
          apply wpGrowV_fix (.agg (relC x).toArray) rfl rfl
          · intro W hb hF
            rw [run_load_midV 67 _ rfl (g) (o + i * 22) rfl (relC x) _ (fun j v hj => cbel hb (hr.out j v hj)) Tryz.underlying67 rfl (by rw [hlx.out]; kernel_rfl)]
            exact ⟨rfl, xrefl W⟩
          try simp only [Act.put, List.setIfInBounds_toArray, List.set_cons_succ, List.set_cons_zero, List.nil_append, List.cons_append]
          apply wpGrowV_fix (.slice (some ⟨g2, o2, none⟩) l.length d) rfl rfl
          · intro W hb hF
            go_simp
            first | exact xrefl W | exact ⟨rfl, xrefl W⟩ | exact ⟨by omega, xrefl W⟩
          try simp only [Act.put, List.setIfInBounds_toArray, List.set_cons_succ, List.set_cons_zero, List.nil_append, List.cons_append]
          apply wpGrowV_fix (.int .i64 i) rfl rfl
          · intro W hb hF
            go_simp
            first | exact xrefl W | exact ⟨rfl, xrefl W⟩ | exact ⟨by omega, xrefl W⟩
          try simp only [Act.put, List.setIfInBounds_toArray, List.set_cons_succ, List.set_cons_zero, List.nil_append, List.cons_append]
          apply wpGrowV_fix (.pointer (some ⟨g2, o2 + i * 22, none⟩)) rfl rfl
          · intro W hb hF
            go_simp
            first | exact xrefl W | exact ⟨rfl, xrefl W⟩ | exact ⟨by omega, xrefl W⟩
          try simp only [Act.put, List.setIfInBounds_toArray, List.set_cons_succ, List.set_cons_zero, List.nil_append, List.cons_append]
          apply wpGrowV_fix (.agg (relC y).toArray) rfl rfl
          · intro W hb hF
            rw [run_load_midV 67 _ rfl (g2) (o2 + i * 22) rfl (relC y) _ (fun j v hj => cbel hb (hr2.out j v hj)) Tryz.underlying67 rfl (by rw [hly.out]; kernel_rfl)]
            exact ⟨rfl, xrefl W⟩
          try simp only [Act.put, List.setIfInBounds_toArray, List.set_cons_succ, List.set_cons_zero, List.nil_append, List.cons_append]
          apply wpGrowV_fix (.bool false) rfl rfl
          · intro W hb hF
            exact grows_okP ((exec_neq_relC _ _ rfl x y hx.out hy.out rfl rfl).trans (by rw [hd.out])) (xrefl W)
          try simp only [Act.put, List.setIfInBounds_toArray, List.set_cons_succ, List.set_cons_zero, List.nil_append, List.cons_append]
          refine wpGrowV_nil fun W3 hb3 _ => ?_
          replace hb3 := Lib.hid (xtrans hbw.out hb3)
          go_wp2
          exact ⟨⟨i + 1, by first | rfl | simp, by omega, hnext, hb3⟩, by simp [intOf]; omega⟩
        · replace hnot := Lib.hid (hnot.out hxy)
          have hd : Hid ((!decide (x = y)) = true) := Lib.hid (by simp [hxy])
          replace hxy := Lib.hid hxy
          clear hnext
          go_upto_region 6 with fail
          refine' wp_region_growL 9 [fixd (.slice (some ⟨g, o, none⟩) l.length c), fixd (.int .i64 i), fixd (.pointer (some ⟨g, o + i * 22, none⟩)), fixd (.agg (relC x).toArray), fixd (.slice (some ⟨g2, o2, none⟩) l.length d), fixd (.int .i64 i), fixd (.pointer (some ⟨g2, o2 + i * 22, none⟩)), fixd (.agg (relC y).toArray), fixd (.bool true)] (by kernel_rfl) (by kernel_rfl) ?_
          simp only [List.take_succ_cons, List.take_zero, List.drop_succ_cons, List.drop_zero]
          try simp only [Act.put, List.setIfInBounds_toArray, List.set_cons_succ, List.set_cons_zero, List.nil_append, List.cons_append]
          apply wpGrowV_fix (.slice (some ⟨g, o, none⟩) l.length c) rfl rfl
          · intro W hb hF
            go_simp
            first | exact xrefl W | exact ⟨rfl, xrefl W⟩ | exact ⟨by omega, xrefl W⟩
          try simp only [Act.put, List.setIfInBounds_toArray, List.set_cons_succ, List.set_cons_zero, List.nil_append, List.cons_append]
          apply wpGrowV_fix (.int .i64 i) rfl rfl
          · intro W hb hF
            go_simp
            first | exact xrefl W | exact ⟨rfl, xrefl W⟩ | exact ⟨by omega, xrefl W⟩
          try simp only [Act.put, List.setIfInBounds_toArray, List.set_cons_succ, List.set_cons_zero, List.nil_append, List.cons_append]
          apply wpGrowV_fix (.pointer (some ⟨g, o + i * 22, none⟩)) rfl rfl
          · intro W hb hF
            go_simp
            first | exact xrefl W | exact ⟨rfl, xrefl W⟩ | exact ⟨by omega, xrefl W⟩
          try simp only [Act.put, List.setIfInBounds_toArray, List.set_cons_succ, List.set_cons_zero, List.nil_append, List.cons_append]
          apply wpGrowV_fix (.agg (relC x).toArray) rfl rfl
          · intro W hb hF
            rw [run_load_midV 67 _ rfl (g) (o + i * 22) rfl (relC x) _ (fun j v hj => cbel hb (hr.out j v hj)) Tryz.underlying67 rfl (by rw [hlx.out]; kernel_rfl)]
            exact ⟨rfl, xrefl W⟩
          try simp only [Act.put, List.setIfInBounds_toArray, List.set_cons_succ, List.set_cons_zero, List.nil_append, List.cons_append]
          apply wpGrowV_fix (.slice (some ⟨g2, o2, none⟩) l.length d) rfl rfl
          · intro W hb hF
            go_simp
            first | exact xrefl W | exact ⟨rfl, xrefl W⟩ | exact ⟨by omega, xrefl W⟩
          try simp only [Act.put, List.setIfInBounds_toArray, List.set_cons_succ, List.set_cons_zero, List.nil_append, List.cons_append]
          apply wpGrowV_fix (.int .i64 i) rfl rfl
          · intro W hb hF
            go_simp
            first | exact xrefl W | exact ⟨rfl, xrefl W⟩ | exact ⟨by omega, xrefl W⟩
          try simp only [Act.put, List.setIfInBounds_toArray, List.set_cons_succ, List.set_cons_zero, List.nil_append, List.cons_append]
          apply wpGrowV_fix (.pointer (some ⟨g2, o2 + i * 22, none⟩)) rfl rfl
          · intro W hb hF
            go_simp
            first | exact xrefl W | exact ⟨rfl, xrefl W⟩ | exact ⟨by omega, xrefl W⟩
          try simp only [Act.put, List.setIfInBounds_toArray, List.set_cons_succ, List.set_cons_zero, List.nil_append, List.cons_append]
          apply wpGrowV_fix (.agg (relC y).toArray) rfl rfl
          · intro W hb hF
            rw [run_load_midV 67 _ rfl (g2) (o2 + i * 22) rfl (relC y) _ (fun j v hj => cbel hb (hr2.out j v hj)) Tryz.underlying67 rfl (by rw [hly.out]; kernel_rfl)]
            exact ⟨rfl, xrefl W⟩
          try simp only [Act.put, List.setIfInBounds_toArray, List.set_cons_succ, List.set_cons_zero, List.nil_append, List.cons_append]
          apply wpGrowV_fix (.bool true) rfl rfl
          · intro W hb hF
            exact grows_okP ((exec_neq_relC _ _ rfl x y hx.out hy.out rfl rfl).trans (by rw [hd.out])) (xrefl W)
          try simp only [Act.put, List.setIfInBounds_toArray, List.set_cons_succ, List.set_cons_zero, List.nil_append, List.cons_append]
          refine wpGrowV_nil fun W3 hb3 _ => ?_
          replace hb3 := Lib.hid (xtrans hbw.out hb3)
          go_wp2
          go_ret
          exact ⟨by rw [decide_eq_false hnot.out]; rfl, hb3.out⟩
      · obtain rfl : i = l.length := by omega
        have hfin : Hid (l = m) := Lib.hid (by
          have := hs.out
          rwa [List.take_of_length_le (Nat.le_refl _), List.take_of_length_le (by rw [hn2.out]; exact Nat.le_refl _)] at this)
        clear hlt
        go_wp2
        go_ret
        exact ⟨by rw [decide_eq_true hfin.out]; rfl, hbw.out⟩
  · have hlmI : ¬ (l.length : Int) = m.length := by omega
    have hb1 : ((l.length : Int) == m.length) = false := by rw [beq_eq_false_iff_ne]; exact hlmI
    rw [decide_eq_false (fun e => hlm (by rw [e]) : ¬ l = m)]
    clear hl hm
    go_enter Tryz.func71, Tryz.ntmps71
    go_wp2
    go_ret
    exact ⟨rfl, xrefl _⟩
end Go.Proofs.YthpallkphamobaaGreatDoor
namespace Go.Proofs.YthpallkphamobaaGreatDoor
open Go.RowKit Go.Shelf

instance : DecidableEq PolN := fun p q => by
  cases p; cases q
  simp only [PolN.mk.injEq]
  exact inferInstance
theorem same_pol (p q : PolN) : decide (p = q) = (decide (p.dflt = q.dflt) && (decide (p.clears = q.clears) && decide (p.rels = q.rels))) := by
  cases p; cases q
  simp only [PolN.mk.injEq, Bool.decide_and]
set_option maxRecDepth 100000 in
set_option maxHeartbeats 4000000 in
theorem sameP_any (p q : PolN) (pa pb qa qb : Option Addr) (pc pd qc qd : Nat) (w : World) (hp : PolAt w p pa pc pb pd) (hq : PolAt w q qa qc qb qd) (hl1 : p.clears.length ≤ 1000000) (hl2 : p.rels.length ≤ 1000000) (hl3 : q.clears.length ≤ 1000000) (hl4 : q.rels.length ≤ 1000000) :
    Calls Tryz.prog 37 #[polV p pa pc pb pd, polV q qa qc qb qd] w fun e w' => e = .returned (.bool (decide (p = q))) ∧ Below w.heap.size w w' := by
  obtain ⟨w2, hw2⟩ : ∃ w2, (w.alloc (.cells #[labV p.dflt, .slice pa p.clears.length pc, .slice pb p.rels.length pd] 27)).alloc (.cells #[labV q.dflt, .slice qa q.clears.length qc, .slice qb q.rels.length qd] 27) = w2 := ⟨_, rfl⟩
  have hb2 : Below w.heap.size w w2 := hw2 ▸ xalloc (xalloc (xrefl w) _) _
  have hP : BlkG w2 w.heap.size 27 [labV p.dflt, .slice pa p.clears.length pc, .slice pb p.rels.length pd] := hw2 ▸ (BlkG.new w _ _).below (xalloc (xrefl _) _)
  have hQ : BlkG w2 (w.heap.size + 1) 27 [labV q.dflt, .slice qa q.clears.length qc, .slice qb q.rels.length qd] := by
    have := BlkG.new (w.alloc (.cells #[labV p.dflt, .slice pa p.clears.length pc, .slice pb p.rels.length pd] 27)) 27 [labV q.dflt, .slice qa q.clears.length qc, .slice qb q.rels.length qd]
    rw [World.size_alloc] at this
    exact hw2 ▸ this
  have c0 := hP.cell 0 (by simp)
  have c1 := hP.cell 1 (by simp)
  have c2 := hP.cell 2 (by simp)
  have d0 := hQ.cell 0 (by simp)
  have d1 := hQ.cell 1 (by simp)
  have d2 := hQ.cell 2 (by simp)
  simp only [List.getElem_cons_succ, List.getElem_cons_zero] at c0 c1 c2 d0 d1 d2
  have hec := fun W (hb : Below w2.heap.size w2 W) => equal_clearC_any p.clears q.clears pa qa pc qc W (hp.cl.below (xtrans hb2 hb)) (hq.cl.below (xtrans hb2 hb)) hl1 hl3 (fun x hx => hp.ok.adrC hx) (fun x hx => hq.ok.adrC hx)
  have her := fun W (hb : Below w2.heap.size w2 W) => equal_relC_any p.rels q.rels pb qb pd qd W (hp.re.below (xtrans hb2 hb)) (hq.re.below (xtrans hb2 hb)) hl2 hl4 (fun x hx => hp.ok.adrR hx) (fun x hx => hq.ok.adrR hx)
  have hdd : (iv64 p.dflt = iv64 q.dflt) ↔ p.dflt = q.dflt := iv64_inj
  rw [same_pol p q]
  generalize hrr : decide (p.rels = q.rels) = rr at *
  clear hp hq hP hQ hrr
  replace hb2 := Lib.hid hb2
  replace hw2 := Lib.hid hw2
  unfold labV at c0 d0 hw2
  unfold polV labV
  by_cases h0 : p.dflt = q.dflt
  · have h0I := hdd.2 h0
    rw [decide_eq_true h0, Bool.true_and]
    generalize iv64 p.dflt = dp at *
    generalize iv64 q.dflt = dq at *
    have hdq : (dp == dq) = true := by rw [beq_iff_eq]; exact h0I
    clear h0 hdd
    by_cases h1 : p.clears = q.clears
    · rw [decide_eq_true h1, Bool.true_and]
      simp only [decide_eq_true h1] at hec
      replace hec := Lib.hid hec
      replace her := Lib.hid her
      clear h1 h0I
      go_enter Tryz.func37, Tryz.ntmps37
      go_upto_region 1 with fail
      rw [hw2.out]
      go_wp2_with (first
        | (go_at_call 70; refine (hec.out _ (xrefl _)).mono ?_; rintro e W3 ⟨rfl, hb3⟩; have c23 := cbel hb3 c2; have d23 := cbel hb3 d2; replace hb3 := Lib.hid hb3)
        | (go_at_call 71; refine (her.out _ hb3.out).mono ?_; rintro e W4 ⟨rfl, hb4⟩; replace hb3 := Lib.hid (xtrans hb2.out (xtrans hb3.out hb4)); clear hb4))
      go_ret
      exact ⟨rfl, hb3.out⟩
    · rw [decide_eq_false h1, Bool.false_and]
      simp only [decide_eq_false h1] at hec
      replace hec := Lib.hid hec
      clear h1 h0I her
      go_enter Tryz.func37, Tryz.ntmps37
      go_upto_region 1 with fail
      rw [hw2.out]
      go_wp2_with (go_at_call 70; refine (hec.out _ (xrefl _)).mono ?_; rintro e W3 ⟨rfl, hb3⟩; replace hb3 := Lib.hid (xtrans hb2.out hb3))
      go_ret
      exact ⟨rfl, hb3.out⟩
  · have h0I : ¬ iv64 p.dflt = iv64 q.dflt := fun e => h0 (hdd.1 e)
    rw [decide_eq_false h0, Bool.false_and]
    generalize iv64 p.dflt = dp at *
    generalize iv64 q.dflt = dq at *
    have hdq : (dp == dq) = false := by rw [beq_eq_false_iff_ne]; exact h0I
    clear h0 hdd hec her
    go_enter Tryz.func37, Tryz.ntmps37
    go_upto_region 1 with fail
    rw [hw2.out]
    have hb3 := hb2
    go_wp2
    go_ret
    exact ⟨rfl, hb3.out⟩
end Go.Proofs.YthpallkphamobaaGreatDoor
