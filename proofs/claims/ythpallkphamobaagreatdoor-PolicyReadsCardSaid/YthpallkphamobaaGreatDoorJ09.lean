/- Texts of this claim, merged; no condition. -/
import Derived.Test.YthpallkphamobaaGreatDoorJ08
set_option linter.all false
namespace Go.Proofs.YthpallkphamobaaGreatDoor
open Go.RowKit Go.Shelf

theorem PolN.Ok.adrC {p : PolN} (h : p.Ok) {x : List Nat × BitVec 64} (hx : x ∈ p.clears) : Adr x.1 := ⟨(h.c x hx).1, (h.c x hx).2⟩
theorem PolN.Ok.adrR {p : PolN} (h : p.Ok) {x : List Nat × Nat × BitVec 64} (hx : x ∈ p.rels) : Adr x.1 := ⟨(h.r x hx).1.1, (h.r x hx).1.2⟩
theorem rise_iff {α : Type} (ord : α → α → Int) : ∀ l : List α, riseF ord l = true ↔ ∀ i (h : i + 1 < l.length), ord l[i] l[i + 1] < 0
  | [] => by simp [riseF]
  | [x] => by simp [riseF]
  | x :: y :: r => by
    rw [riseF, Bool.and_eq_true, decide_eq_true_eq, rise_iff ord (y :: r)]
    constructor
    · rintro ⟨h1, h2⟩ i h
      cases i with
      | zero => exact h1
      | succ i => exact h2 i (by simpa using h)
    · intro h
      exact ⟨h 0 (by simp), fun i hi => h (i + 1) (by simpa using hi)⟩
theorem cmpI_ge {a b : Nat} (h : ¬ a < b) : ¬ cmpI a b < 0 := by
  unfold cmpI
  rw [if_neg h]
  split <;> decide
theorem check_bad {p : PolN} (h1 : p.clears.length ≤ 64) (h2 : p.rels.length ≤ 64) (h : ¬ (riseF ordC p.clears = true ∧ riseF ordR p.rels = true ∧ p.rels.all (okR p) = true)) : checkF p = 2 := by
  unfold checkF
  rw [if_neg (by omega), if_neg h]
theorem check_good {p : PolN} (h1 : p.clears.length ≤ 64) (h2 : p.rels.length ≤ 64) (h : riseF ordC p.clears = true ∧ riseF ordR p.rels = true ∧ p.rels.all (okR p) = true) : checkF p = 0 := by
  unfold checkF
  rw [if_neg (by omega), if_pos h]
theorem relC_len {x : List Nat × Nat × BitVec 64} (h : Adr x.1) : (relC x).length = 22 := by unfold relC; rw [List.length_append, adrC_len, h.len]; rfl
theorem clearC_len {x : List Nat × BitVec 64} (h : Adr x.1) : (clearC x).length = 21 := by unfold clearC; rw [List.length_append, adrC_len, h.len]; rfl
theorem relC_one (x : List Nat × Nat × BitVec 64) : (relC x).all (·.oneCell') = true := by simp [relC, adrC, labV, Value.oneCell']
theorem clearC_one (x : List Nat × BitVec 64) : (clearC x).all (·.oneCell') = true := by simp [clearC, adrC, labV, Value.oneCell']
set_option maxRecDepth 100000 in
set_option maxHeartbeats 16000000 in
theorem refCheck_any (p : PolN) (pa pb : Option Addr) (c d : Nat) (w : World) (hp : PolAt w p pa c pb d) (hl : p.clears.length ≤ 1000000) (hl2 : p.rels.length ≤ 1000000) :
    Calls Tryz.prog 15 #[polV p pa c pb d] w fun e w' => e = .returned (.int .i64 (checkF p : Nat)) ∧ Below w.heap.size w w' := by
  have hbe : Below w.heap.size w (w.alloc (.cells #[labV p.dflt, .slice pa p.clears.length c, .slice pb p.rels.length d] 27)) := xalloc (xrefl w) _
  have hP : BlkG (w.alloc (.cells #[labV p.dflt, .slice pa p.clears.length c, .slice pb p.rels.length d] 27)) w.heap.size 27 [labV p.dflt, .slice pa p.clears.length c, .slice pb p.rels.length d] := BlkG.new w _ _
  have hC := hp.below hbe
  by_cases h3 : 64 < p.clears.length ∨ 64 < p.rels.length
  · have he : checkF p = 3 := by unfold checkF; rw [if_pos h3]
    have cP1 := hP.cell 1 (by simp)
    have cP2 := hP.cell 2 (by simp)
    simp only [List.getElem_cons_succ, List.getElem_cons_zero] at cP1 cP2
    rw [he]
    unfold polV
    by_cases hc : (p.clears.length : Int) > 64
    · go_enter Tryz.func15, Tryz.ntmps15
      go_wp2
      go_ret
      exact ⟨rfl, hbe⟩
    · have hr : (p.rels.length : Int) > 64 := by omega
      go_enter Tryz.func15, Tryz.ntmps15
      go_wp2
      go_ret
      exact ⟨rfl, hbe⟩
  · have hc64 : p.clears.length ≤ 64 := by omega
    have hr64 : p.rels.length ≤ 64 := by omega
    have hcI : ¬ (p.clears.length : Int) > 64 := by omega
    have hrI : ¬ (p.rels.length : Int) > 64 := by omega
    have hok := Lib.hid hp.ok
    have hbad := Lib.hid (check_bad hc64 hr64)
    have hgood := Lib.hid (check_good hc64 hr64)
    have cP1 := hP.cell 1 (by simp)
    have cP2 := hP.cell 2 (by simp)
    simp only [List.getElem_cons_succ, List.getElem_cons_zero] at cP1 cP2
    clear h3
    unfold polV
    go_enter Tryz.func15, Tryz.ntmps15
    go_wp2
    generalize w.alloc (.cells #[labV p.dflt, .slice pa p.clears.length c, .slice pb p.rels.length d] 27) = w2 at *
    replace hP := Lib.hid hP
    replace hC := Lib.hid hC
    replace hbe := Lib.hid hbe
    replace cP1 := Lib.hid cP1
    replace cP2 := Lib.hid cP2
    clear hp
    go_loopw [3] (fun iv wr => ∃ i : Nat, iv = .int .i64 i ∧ 1 ≤ i ∧ i ≤ 65 ∧ Hid (Below w2.heap.size w2 wr) ∧ Hid (∀ j (h : j + 1 < p.clears.length), j + 1 < i → ordC p.clears[j] p.clears[j + 1] < 0)) (fun iv _ => 66 - (intOf iv).toNat)
    case atStart => exact ⟨1, rfl, by omega, by omega, Lib.hid (xrefl _), Lib.hid fun j _ h => by omega⟩
    case round =>
      obtain ⟨i, rfl, hi1, hi, hw, hs⟩ := hrel
      have cW1 := cbel hw.out cP1.out
      by_cases hlt : i < p.clears.length
      · have hltI : (i : Int) < p.clears.length := by omega
        obtain ⟨k, hk⟩ : ∃ k, i = k + 1 := ⟨i - 1, by omega⟩
        have hkl : k < p.clears.length := by omega
        obtain ⟨g, o, rfl, hrow⟩ := (hC.out.cl.below hw.out).elt k hkl
        obtain ⟨g2, o2, e2, hrow2⟩ := (hC.out.cl.below hw.out).elt i hlt
        cases e2
        have hx := Lib.hid (hok.out.adrC (List.getElem_mem hkl))
        have hy := Lib.hid (hok.out.adrC (List.getElem_mem hlt))
        have hsub : IntKind.i64.wrap ((i : Int) - 1) = (k : Int) := by subst hk; simp [IntKind.wrap, IntKind.bits, IntKind.signed]; omega
        have hwi : IntKind.i64.wrap ((i : Int) + 1) = (i : Int) + 1 := by simp [IntKind.wrap, IntKind.bits, IntKind.signed]; omega
        have hkI : (k : Int) < p.clears.length := by omega
        have hsi : Hid (ordC p.clears[k] p.clears[i] = ordA p.clears[k].1 p.clears[i].1) := Lib.hid rfl
        have hnew : Hid (ordC p.clears[k] p.clears[i] < 0 → ∀ j (h : j + 1 < p.clears.length), j + 1 < i + 1 → ordC p.clears[j] p.clears[j + 1] < 0) := Lib.hid fun h0 j h hj => by
          by_cases e : j + 1 = i
          · subst e
            obtain rfl : j = k := by omega
            exact h0
          · exact hs.out j h (by omega)
        have hbd : Hid (¬ ordC p.clears[k] p.clears[i] < 0 → checkF p = 2) := Lib.hid fun h0 => hbad.out fun hall => h0 (by
          subst hk
          exact (rise_iff ordC p.clears).1 hall.1 k hlt)
        rcases hxe : p.clears[k] with ⟨xa, xl⟩
        rcases hye : p.clears[i] with ⟨ya, yl⟩
        rw [hxe] at hrow hx hsi hnew hbd
        rw [hye] at hrow2 hy hsi hnew hbd
        dsimp only at hx hy
        replace hsi : ordC (xa, xl) (ya, yl) = ordA xa ya := hsi.out
        rw [hsi] at hnew hbd
        have hcap := hC.out.cl.cap
        replace hrow := Lib.hid hrow
        replace hrow2 := Lib.hid hrow2
        have cP1' := cW1
        replace cP1w := Lib.hid cW1
        have hwk : IntKind.i64.wrap (k : Int) = (k : Int) := by simp [IntKind.wrap, IntKind.bits, IntKind.signed]; omega
        clear hsi hxe hye hs hk
        by_cases hn : ordA xa ya < 0
        · have hn2 : ¬ (0 : Int) ≤ ordA xa ya := by omega
          replace hnew := Lib.hid (hnew.out hn)
          clear hbd
          go_wp2
          clear cP1'
          refine' wp_region_growL 15 [fixd (.pointer (some ⟨w.heap.size, 1, none⟩)), fixd (.slice (some ⟨g, o, none⟩) p.clears.length c), fixd (.int .i64 i), fixd (.int .i64 k), fixd (.pointer (some ⟨g, o + k * 21, none⟩)), fixd (.pointer (some ⟨g, o + k * 21, none⟩)), fixd (adrV xa), fixd (.pointer (some ⟨w.heap.size, 1, none⟩)), fixd (.slice (some ⟨g, o, none⟩) p.clears.length c), fixd (.int .i64 i), fixd (.pointer (some ⟨g, o + i * 21, none⟩)), fixd (.pointer (some ⟨g, o + i * 21, none⟩)), fixd (adrV ya), fixd (.int .i64 (ordA xa ya)), fixd (.bool false)] (by kernel_rfl) (by kernel_rfl) ?_
          simp only [List.take_succ_cons, List.take_zero, List.drop_succ_cons, List.drop_zero]
          try simp only [Act.put, List.setIfInBounds_toArray, List.set_cons_succ, List.set_cons_zero, List.nil_append, List.cons_append]
          apply wpGrowV_fix (.pointer (some ⟨w.heap.size, 1, none⟩)) rfl rfl
          · intro W hb hF
            go_simp
            first | exact xrefl W | exact ⟨rfl, xrefl W⟩
          try simp only [Act.put, List.setIfInBounds_toArray, List.set_cons_succ, List.set_cons_zero, List.nil_append, List.cons_append]
          apply wpGrowV_fix (.slice (some ⟨g, o, none⟩) p.clears.length c) rfl rfl
          · intro W hb hF
            have c := cbel hb cP1w.out
            go_simp
            first | exact xrefl W | exact ⟨rfl, xrefl W⟩
          try simp only [Act.put, List.setIfInBounds_toArray, List.set_cons_succ, List.set_cons_zero, List.nil_append, List.cons_append]
          apply wpGrowV_fix (.int .i64 i) rfl rfl
          · intro W hb hF
            go_simp
            first | exact xrefl W | exact ⟨rfl, xrefl W⟩
          try simp only [Act.put, List.setIfInBounds_toArray, List.set_cons_succ, List.set_cons_zero, List.nil_append, List.cons_append]
          apply wpGrowV_fix (.int .i64 k) rfl rfl
          · intro W hb hF
            go_simp
            first | exact xrefl W | exact ⟨rfl, xrefl W⟩
          try simp only [Act.put, List.setIfInBounds_toArray, List.set_cons_succ, List.set_cons_zero, List.nil_append, List.cons_append]
          apply wpGrowV_fix (.pointer (some ⟨g, o + k * 21, none⟩)) rfl rfl
          · intro W hb hF
            go_simp
            first | exact xrefl W | exact ⟨rfl, xrefl W⟩
          try simp only [Act.put, List.setIfInBounds_toArray, List.set_cons_succ, List.set_cons_zero, List.nil_append, List.cons_append]
          apply wpGrowV_fix (.pointer (some ⟨g, o + k * 21, none⟩)) rfl rfl
          · intro W hb hF
            go_simp
            first | exact xrefl W | exact ⟨rfl, xrefl W⟩
          try simp only [Act.put, List.setIfInBounds_toArray, List.set_cons_succ, List.set_cons_zero, List.nil_append, List.cons_append]
          apply wpGrowV_fix (adrV xa) rfl rfl
          · intro W hb hF
            rw [run_load_midV 29 _ rfl (g) (o + k * 21) rfl (adrC xa) _ (fun j v hj => cbel hb (hrow.out j v (pre_get hj))) Tryz.underlying29 rfl (by rw [adrC_len, hx.out.len]; kernel_rfl)]
            exact ⟨rfl, xrefl W⟩
          try simp only [Act.put, List.setIfInBounds_toArray, List.set_cons_succ, List.set_cons_zero, List.nil_append, List.cons_append]
          apply wpGrowV_fix (.pointer (some ⟨w.heap.size, 1, none⟩)) rfl rfl
          · intro W hb hF
            go_simp
            first | exact xrefl W | exact ⟨rfl, xrefl W⟩
          try simp only [Act.put, List.setIfInBounds_toArray, List.set_cons_succ, List.set_cons_zero, List.nil_append, List.cons_append]
          apply wpGrowV_fix (.slice (some ⟨g, o, none⟩) p.clears.length c) rfl rfl
          · intro W hb hF
            have c := cbel hb cP1w.out
            go_simp
            first | exact xrefl W | exact ⟨rfl, xrefl W⟩
          try simp only [Act.put, List.setIfInBounds_toArray, List.set_cons_succ, List.set_cons_zero, List.nil_append, List.cons_append]
          apply wpGrowV_fix (.int .i64 i) rfl rfl
          · intro W hb hF
            go_simp
            first | exact xrefl W | exact ⟨rfl, xrefl W⟩
          try simp only [Act.put, List.setIfInBounds_toArray, List.set_cons_succ, List.set_cons_zero, List.nil_append, List.cons_append]
          apply wpGrowV_fix (.pointer (some ⟨g, o + i * 21, none⟩)) rfl rfl
          · intro W hb hF
            go_simp
            first | exact xrefl W | exact ⟨rfl, xrefl W⟩
          try simp only [Act.put, List.setIfInBounds_toArray, List.set_cons_succ, List.set_cons_zero, List.nil_append, List.cons_append]
          apply wpGrowV_fix (.pointer (some ⟨g, o + i * 21, none⟩)) rfl rfl
          · intro W hb hF
            go_simp
            first | exact xrefl W | exact ⟨rfl, xrefl W⟩
          try simp only [Act.put, List.setIfInBounds_toArray, List.set_cons_succ, List.set_cons_zero, List.nil_append, List.cons_append]
          apply wpGrowV_fix (adrV ya) rfl rfl
          · intro W hb hF
            rw [run_load_midV 29 _ rfl (g) (o + i * 21) rfl (adrC ya) _ (fun j v hj => cbel hb (hrow2.out j v (pre_get hj))) Tryz.underlying29 rfl (by rw [adrC_len, hy.out.len]; kernel_rfl)]
            exact ⟨rfl, xrefl W⟩
          try simp only [Act.put, List.setIfInBounds_toArray, List.set_cons_succ, List.set_cons_zero, List.nil_append, List.cons_append]
          apply wpGrowV_fix (.int .i64 (ordA xa ya)) rfl rfl
          · intro W hb hF
            go_simp
            go_at_call 22
            refine (refOrder_any xa ya W hx.out hy.out).mono ?_
            rintro e w' ⟨rfl, hb'⟩
            exact ⟨rfl, hb'⟩
          try simp only [Act.put, List.setIfInBounds_toArray, List.set_cons_succ, List.set_cons_zero, List.nil_append, List.cons_append]
          apply wpGrowV_fix (.bool false) rfl rfl
          · intro W hb hF
            go_simp
            first | exact xrefl W | exact ⟨rfl, xrefl W⟩
          try simp only [Act.put, List.setIfInBounds_toArray, List.set_cons_succ, List.set_cons_zero, List.nil_append, List.cons_append]
          intro W hbW _
          replace hw := Lib.hid (xtrans hw.out hbW)
          go_wp2
          exact ⟨⟨i + 1, by first | rfl | simp, by omega, by omega, hw, hnew⟩, by simp [intOf]; omega⟩
        · have hn2 : (0 : Int) ≤ ordA xa ya := by omega
          replace hbd := Lib.hid (hbd.out hn)
          go_wp2
          clear cP1'
          refine' wp_region_growL 15 [fixd (.pointer (some ⟨w.heap.size, 1, none⟩)), fixd (.slice (some ⟨g, o, none⟩) p.clears.length c), fixd (.int .i64 i), fixd (.int .i64 k), fixd (.pointer (some ⟨g, o + k * 21, none⟩)), fixd (.pointer (some ⟨g, o + k * 21, none⟩)), fixd (adrV xa), fixd (.pointer (some ⟨w.heap.size, 1, none⟩)), fixd (.slice (some ⟨g, o, none⟩) p.clears.length c), fixd (.int .i64 i), fixd (.pointer (some ⟨g, o + i * 21, none⟩)), fixd (.pointer (some ⟨g, o + i * 21, none⟩)), fixd (adrV ya), fixd (.int .i64 (ordA xa ya)), fixd (.bool true)] (by kernel_rfl) (by kernel_rfl) ?_
          simp only [List.take_succ_cons, List.take_zero, List.drop_succ_cons, List.drop_zero]
          try simp only [Act.put, List.setIfInBounds_toArray, List.set_cons_succ, List.set_cons_zero, List.nil_append, List.cons_append]
          apply wpGrowV_fix (.pointer (some ⟨w.heap.size, 1, none⟩)) rfl rfl
          · intro W hb hF
            go_simp
            first | exact xrefl W | exact ⟨rfl, xrefl W⟩
          try simp only [Act.put, List.setIfInBounds_toArray, List.set_cons_succ, List.set_cons_zero, List.nil_append, List.cons_append]
          apply wpGrowV_fix (.slice (some ⟨g, o, none⟩) p.clears.length c) rfl rfl
          · intro W hb hF
            have c := cbel hb cP1w.out
            go_simp
            first | exact xrefl W | exact ⟨rfl, xrefl W⟩
          try simp only [Act.put, List.setIfInBounds_toArray, List.set_cons_succ, List.set_cons_zero, List.nil_append, List.cons_append]
          apply wpGrowV_fix (.int .i64 i) rfl rfl
          · intro W hb hF
            go_simp
            first | exact xrefl W | exact ⟨rfl, xrefl W⟩
          try simp only [Act.put, List.setIfInBounds_toArray, List.set_cons_succ, List.set_cons_zero, List.nil_append, List.cons_append]
          apply wpGrowV_fix (.int .i64 k) rfl rfl
          · intro W hb hF
            go_simp
            first | exact xrefl W | exact ⟨rfl, xrefl W⟩
          try simp only [Act.put, List.setIfInBounds_toArray, List.set_cons_succ, List.set_cons_zero, List.nil_append, List.cons_append]
          apply wpGrowV_fix (.pointer (some ⟨g, o + k * 21, none⟩)) rfl rfl
          · intro W hb hF
            go_simp
            first | exact xrefl W | exact ⟨rfl, xrefl W⟩
          try simp only [Act.put, List.setIfInBounds_toArray, List.set_cons_succ, List.set_cons_zero, List.nil_append, List.cons_append]
          apply wpGrowV_fix (.pointer (some ⟨g, o + k * 21, none⟩)) rfl rfl
          · intro W hb hF
            go_simp
            first | exact xrefl W | exact ⟨rfl, xrefl W⟩
          try simp only [Act.put, List.setIfInBounds_toArray, List.set_cons_succ, List.set_cons_zero, List.nil_append, List.cons_append]
          apply wpGrowV_fix (adrV xa) rfl rfl
          · intro W hb hF
            rw [run_load_midV 29 _ rfl (g) (o + k * 21) rfl (adrC xa) _ (fun j v hj => cbel hb (hrow.out j v (pre_get hj))) Tryz.underlying29 rfl (by rw [adrC_len, hx.out.len]; kernel_rfl)]
            exact ⟨rfl, xrefl W⟩
          try simp only [Act.put, List.setIfInBounds_toArray, List.set_cons_succ, List.set_cons_zero, List.nil_append, List.cons_append]
          apply wpGrowV_fix (.pointer (some ⟨w.heap.size, 1, none⟩)) rfl rfl
          · intro W hb hF
            go_simp
            first | exact xrefl W | exact ⟨rfl, xrefl W⟩
          try simp only [Act.put, List.setIfInBounds_toArray, List.set_cons_succ, List.set_cons_zero, List.nil_append, List.cons_append]
          apply wpGrowV_fix (.slice (some ⟨g, o, none⟩) p.clears.length c) rfl rfl
          · intro W hb hF
            have c := cbel hb cP1w.out
            go_simp
            first | exact xrefl W | exact ⟨rfl, xrefl W⟩
          try simp only [Act.put, List.setIfInBounds_toArray, List.set_cons_succ, List.set_cons_zero, List.nil_append, List.cons_append]
          apply wpGrowV_fix (.int .i64 i) rfl rfl
          · intro W hb hF
            go_simp
            first | exact xrefl W | exact ⟨rfl, xrefl W⟩
          try simp only [Act.put, List.setIfInBounds_toArray, List.set_cons_succ, List.set_cons_zero, List.nil_append, List.cons_append]
          apply wpGrowV_fix (.pointer (some ⟨g, o + i * 21, none⟩)) rfl rfl
          · intro W hb hF
            go_simp
            first | exact xrefl W | exact ⟨rfl, xrefl W⟩
          try simp only [Act.put, List.setIfInBounds_toArray, List.set_cons_succ, List.set_cons_zero, List.nil_append, List.cons_append]
          apply wpGrowV_fix (.pointer (some ⟨g, o + i * 21, none⟩)) rfl rfl
          · intro W hb hF
            go_simp
            first | exact xrefl W | exact ⟨rfl, xrefl W⟩
          try simp only [Act.put, List.setIfInBounds_toArray, List.set_cons_succ, List.set_cons_zero, List.nil_append, List.cons_append]
          apply wpGrowV_fix (adrV ya) rfl rfl
          · intro W hb hF
            rw [run_load_midV 29 _ rfl (g) (o + i * 21) rfl (adrC ya) _ (fun j v hj => cbel hb (hrow2.out j v (pre_get hj))) Tryz.underlying29 rfl (by rw [adrC_len, hy.out.len]; kernel_rfl)]
            exact ⟨rfl, xrefl W⟩
          try simp only [Act.put, List.setIfInBounds_toArray, List.set_cons_succ, List.set_cons_zero, List.nil_append, List.cons_append]
          apply wpGrowV_fix (.int .i64 (ordA xa ya)) rfl rfl
          · intro W hb hF
            go_simp
            go_at_call 22
            refine (refOrder_any xa ya W hx.out hy.out).mono ?_
            rintro e w' ⟨rfl, hb'⟩
            exact ⟨rfl, hb'⟩
          try simp only [Act.put, List.setIfInBounds_toArray, List.set_cons_succ, List.set_cons_zero, List.nil_append, List.cons_append]
          apply wpGrowV_fix (.bool true) rfl rfl
          · intro W hb hF
            go_simp
            first | exact xrefl W | exact ⟨rfl, xrefl W⟩
          try simp only [Act.put, List.setIfInBounds_toArray, List.set_cons_succ, List.set_cons_zero, List.nil_append, List.cons_append]
          intro W hbW _
          replace hw := Lib.hid (xtrans hw.out hbW)
          go_wp2
          go_ret
          exact ⟨by rw [hbd.out]; rfl, xtrans hbe.out hw.out⟩
      · have hge : ¬ (i : Int) < p.clears.length := by omega
        have hrise : Hid (riseF ordC p.clears = true) := Lib.hid ((rise_iff _ _).2 fun j h => hs.out j h (by omega))
        clear hs hlt
        go_wp2
        go_loopw [4] (fun iv wx => ∃ i : Nat, iv = .int .i64 i ∧ i ≤ p.rels.length ∧ Hid (Below w2.heap.size w2 wx) ∧ Hid (∀ j (h : j < p.rels.length), j < i → okR p p.rels[j] = true) ∧ Hid (∀ j (h : j + 1 < p.rels.length), j + 1 < i → ordR p.rels[j] p.rels[j + 1] < 0)) (fun iv _ => p.rels.length - (intOf iv).toNat)
        case atStart => exact ⟨0, rfl, by omega, hw, Lib.hid fun j _ h => by omega, Lib.hid fun j _ h => by omega⟩
        case round =>
          clear hw
          obtain ⟨i, rfl, hi, hw, hs1, hs2⟩ := hrel
          have cW2 := cbel hw.out cP2.out
          by_cases hlt : i < p.rels.length
          · have hltI : (i : Int) < p.rels.length := by omega
            obtain ⟨g, o, rfl, hrow⟩ := (hC.out.re.below hw.out).elt i hlt
            have hx := Lib.hid (hok.out.adrR (List.getElem_mem hlt))
            have hwi : IntKind.i64.wrap ((i : Int) + 1) = (i : Int) + 1 := by simp [IntKind.wrap, IntKind.bits, IntKind.signed]; omega
            have hcap := hC.out.re.cap
            have hok1 : Hid (okR p p.rels[i] = true → ∀ j (h : j < p.rels.length), j < i + 1 → okR p p.rels[j] = true) := Lib.hid fun h0 j h hj => by
              by_cases e : j = i
              · subst e; exact h0
              · exact hs1.out j h (by omega)
            have hno1 : Hid (okR p p.rels[i] = false → checkF p = 2) := Lib.hid fun h0 => hbad.out fun hall => by
              have := List.all_eq_true.1 hall.2.2 _ (List.getElem_mem hlt)
              rw [h0] at this; cases this
            have hprev : Hid (∀ k (hk : i = k + 1), (ordR (p.rels[k]'(by omega)) p.rels[i] < 0 → ∀ j (h : j + 1 < p.rels.length), j + 1 < i + 1 → ordR p.rels[j] p.rels[j + 1] < 0) ∧ (¬ ordR (p.rels[k]'(by omega)) p.rels[i] < 0 → checkF p = 2)) := Lib.hid fun k hk => by
              subst hk
              refine ⟨fun h0 j h hj => ?_, fun h0 => hbad.out fun hall => h0 ((rise_iff ordR p.rels).1 hall.2.1 k hlt)⟩
              by_cases e : j = k
              · subst e; exact h0
              · exact hs2.out j h (by omega)
            have hfirst : Hid (i = 0 → ∀ j (h : j + 1 < p.rels.length), j + 1 < i + 1 → ordR p.rels[j] p.rels[j + 1] < 0) := Lib.hid fun e j h hj => by omega
            rcases hxe : p.rels[i] with ⟨xa, xe, xl⟩
            rw [hxe] at hrow hx hok1 hno1
            simp only [hxe] at hprev
            dsimp only at hx
            replace hrow := Lib.hid hrow
            clear hs1 hs2
            go_wp2_with (first
              | (refine wpList_load_mid rfl 67 _ rfl g (o + i * 22) rfl (relC (xa, xe, xl)) _ hrow.out Tryz.underlying67 rfl (by rw [relC_len hx.out]; kernel_rfl) ?_)
              | (refine wpList_store_blkG rfl 67 _ _ rfl wr.heap.size rfl 67 [.int .u8 0, .int .u8 0, .int .u8 0, .int .u8 0, .int .u8 0, .int .u8 0, .int .u8 0, .int .u8 0, .int .u8 0, .int .u8 0, .int .u8 0, .int .u8 0, .int .u8 0, .int .u8 0, .int .u8 0, .int .u8 0, .int .u8 0, .int .u8 0, .int .u8 0, .int .u8 0, .int .u32 0, .int .u64 0] (relC (xa, xe, xl)) (BlkG.new wr _ _) rfl (by rw [relC_len hx.out]; rfl) (by rw [relC_len hx.out]; kernel_rfl) (relC_one _) ?_; intro w3 hX ho3; have hb3 := Lib.hid (ho3.below (xalloc (xrefl wr) _) (xalloc (xrefl wr) (.cells ([.int .u8 0, .int .u8 0, .int .u8 0, .int .u8 0, .int .u8 0, .int .u8 0, .int .u8 0, .int .u8 0, .int .u8 0, .int .u8 0, .int .u8 0, .int .u8 0, .int .u8 0, .int .u8 0, .int .u8 0, .int .u8 0, .int .u8 0, .int .u8 0, .int .u8 0, .int .u8 0, .int .u32 0, .int .u64 0] : List Value).toArray 67)).size (by rintro k rfl; exact Nat.le_refl _)); replace hX := Lib.hid hX; clear ho3))
            have hC3 := Lib.hid (hC.out.below (xtrans hw.out hb3.out))
            have hPr := Lib.hid (BlkG.range (BlkG.below hP.out (xtrans hw.out hb3.out)))
            have hXr := Lib.hid (BlkG.range hX.out)
            have hX21 := Lib.hid (hXr.out 21 _ (ent_get xa hx.out.len xe xl).2)
            have hX20 := Lib.hid (hXr.out 20 _ (ent_get xa hx.out.len xe xl).1)
            have clab : Hid (w3.cell? ⟨wr.heap.size, 21, none⟩ = some (labV xl)) := Lib.hid (by have := hX21.out; rwa [Nat.zero_add] at this)
            have cent : Hid (w3.cell? ⟨wr.heap.size, 20, none⟩ = some (.int .u32 xe)) := Lib.hid (by have := hX20.out; rwa [Nat.zero_add] at this)
            have cW3 := Lib.hid (cbel hb3.out cW2)
            replace hb3 := Lib.hid (xtrans hw.out hb3.out)
            generalize hB1 : wr.heap.size = B1 at *
            clear hX20 hX21 hX hw hrow cW2 hB1
            cases hokb : belowB xl (clearF p xa) with
            | false =>
              replace hno1 := Lib.hid (hno1.out hokb)
              refine' wp_region_growL 8 [fixd (.pointer (some ⟨B1, 21, none⟩)), fixd (labV xl), fixd (polV p pa c (some ⟨g, o, none⟩) d), fixd (.pointer (some ⟨B1, 0, none⟩)), fixd (adrV xa), fixd (labV (clearF p xa)), fixd (.bool false), fixd (.bool true)] (by kernel_rfl) (by kernel_rfl) ?_
              simp only [List.take_succ_cons, List.take_zero, List.drop_succ_cons, List.drop_zero]
              try simp only [Act.put, List.setIfInBounds_toArray, List.set_cons_succ, List.set_cons_zero, List.nil_append, List.cons_append]
              apply wpGrowV_fix (.pointer (some ⟨B1, 21, none⟩)) rfl rfl
              · intro W hb hF
                go_simp
                first | exact xrefl W | exact ⟨rfl, xrefl W⟩
              try simp only [Act.put, List.setIfInBounds_toArray, List.set_cons_succ, List.set_cons_zero, List.nil_append, List.cons_append]
              apply wpGrowV_fix (labV xl) rfl rfl
              · intro W hb hF
                have c := cbel hb clab.out
                go_simp
                first | exact xrefl W | exact ⟨rfl, xrefl W⟩
              try simp only [Act.put, List.setIfInBounds_toArray, List.set_cons_succ, List.set_cons_zero, List.nil_append, List.cons_append]
              apply wpGrowV_fix (polV p pa c (some ⟨g, o, none⟩) d) rfl rfl
              · intro W hb hF
                rw [run_load_midV 27 _ rfl (w.heap.size) (0) rfl ([labV p.dflt, .slice pa p.clears.length c, .slice (some ⟨g, o, none⟩) p.rels.length d]) _ (fun j v hj => cbel hb (hPr.out j v hj)) Tryz.underlying27 rfl (by kernel_rfl)]
                exact ⟨rfl, xrefl W⟩
              try simp only [Act.put, List.setIfInBounds_toArray, List.set_cons_succ, List.set_cons_zero, List.nil_append, List.cons_append]
              apply wpGrowV_fix (.pointer (some ⟨B1, 0, none⟩)) rfl rfl
              · intro W hb hF
                go_simp
                first | exact xrefl W | exact ⟨rfl, xrefl W⟩
              try simp only [Act.put, List.setIfInBounds_toArray, List.set_cons_succ, List.set_cons_zero, List.nil_append, List.cons_append]
              apply wpGrowV_fix (adrV xa) rfl rfl
              · intro W hb hF
                rw [run_load_midV 29 _ rfl (B1) (0) rfl (adrC xa) _ (fun j v hj => cbel hb (hXr.out j v (pre_get hj))) Tryz.underlying29 rfl (by rw [adrC_len, hx.out.len]; kernel_rfl)]
                exact ⟨rfl, xrefl W⟩
              try simp only [Act.put, List.setIfInBounds_toArray, List.set_cons_succ, List.set_cons_zero, List.nil_append, List.cons_append]
              apply wpGrowV_fix (labV (clearF p xa)) rfl rfl
              · intro W hb hF
                go_simp
                go_at_call 17
                refine (refClearance_any p xa pa _ c d W (hC3.out.below hb) hx.out (by omega)).mono ?_
                rintro e w' ⟨rfl, hb'⟩
                exact ⟨rfl, hb'⟩
              try simp only [Act.put, List.setIfInBounds_toArray, List.set_cons_succ, List.set_cons_zero, List.nil_append, List.cons_append]
              apply wpGrowV_fix (.bool false) rfl rfl
              · intro W hb hF
                go_simp
                go_at_call 43
                refine (refBelow_any xl (clearF p xa) W).mono ?_
                rintro e w' ⟨rfl, rfl⟩
                exact ⟨by rw [hokb], xrefl _⟩
              try simp only [Act.put, List.setIfInBounds_toArray, List.set_cons_succ, List.set_cons_zero, List.nil_append, List.cons_append]
              apply wpGrowV_fix (.bool true) rfl rfl
              · intro W hb hF
                go_simp
                first | exact xrefl W | exact ⟨rfl, xrefl W⟩
              try simp only [Act.put, List.setIfInBounds_toArray, List.set_cons_succ, List.set_cons_zero, List.nil_append, List.cons_append]
              intro W hbW _
              go_wp2
              go_ret
              exact ⟨by rw [hno1.out]; rfl, xtrans hbe.out (xtrans hb3.out hbW)⟩
            | true =>
              replace hok1 := Lib.hid (hok1.out hokb)
              refine' wp_region_growL 8 [fixd (.pointer (some ⟨B1, 21, none⟩)), fixd (labV xl), fixd (polV p pa c (some ⟨g, o, none⟩) d), fixd (.pointer (some ⟨B1, 0, none⟩)), fixd (adrV xa), fixd (labV (clearF p xa)), fixd (.bool true), fixd (.bool false)] (by kernel_rfl) (by kernel_rfl) ?_
              simp only [List.take_succ_cons, List.take_zero, List.drop_succ_cons, List.drop_zero]
              try simp only [Act.put, List.setIfInBounds_toArray, List.set_cons_succ, List.set_cons_zero, List.nil_append, List.cons_append]
              apply wpGrowV_fix (.pointer (some ⟨B1, 21, none⟩)) rfl rfl
              · intro W hb hF
                go_simp
                first | exact xrefl W | exact ⟨rfl, xrefl W⟩
              try simp only [Act.put, List.setIfInBounds_toArray, List.set_cons_succ, List.set_cons_zero, List.nil_append, List.cons_append]
              apply wpGrowV_fix (labV xl) rfl rfl
              · intro W hb hF
                have c := cbel hb clab.out
                go_simp
                first | exact xrefl W | exact ⟨rfl, xrefl W⟩
              try simp only [Act.put, List.setIfInBounds_toArray, List.set_cons_succ, List.set_cons_zero, List.nil_append, List.cons_append]
              apply wpGrowV_fix (polV p pa c (some ⟨g, o, none⟩) d) rfl rfl
              · intro W hb hF
                rw [run_load_midV 27 _ rfl (w.heap.size) (0) rfl ([labV p.dflt, .slice pa p.clears.length c, .slice (some ⟨g, o, none⟩) p.rels.length d]) _ (fun j v hj => cbel hb (hPr.out j v hj)) Tryz.underlying27 rfl (by kernel_rfl)]
                exact ⟨rfl, xrefl W⟩
              try simp only [Act.put, List.setIfInBounds_toArray, List.set_cons_succ, List.set_cons_zero, List.nil_append, List.cons_append]
              apply wpGrowV_fix (.pointer (some ⟨B1, 0, none⟩)) rfl rfl
              · intro W hb hF
                go_simp
                first | exact xrefl W | exact ⟨rfl, xrefl W⟩
              try simp only [Act.put, List.setIfInBounds_toArray, List.set_cons_succ, List.set_cons_zero, List.nil_append, List.cons_append]
              apply wpGrowV_fix (adrV xa) rfl rfl
              · intro W hb hF
                rw [run_load_midV 29 _ rfl (B1) (0) rfl (adrC xa) _ (fun j v hj => cbel hb (hXr.out j v (pre_get hj))) Tryz.underlying29 rfl (by rw [adrC_len, hx.out.len]; kernel_rfl)]
                exact ⟨rfl, xrefl W⟩
              try simp only [Act.put, List.setIfInBounds_toArray, List.set_cons_succ, List.set_cons_zero, List.nil_append, List.cons_append]
              apply wpGrowV_fix (labV (clearF p xa)) rfl rfl
              · intro W hb hF
                go_simp
                go_at_call 17
                refine (refClearance_any p xa pa _ c d W (hC3.out.below hb) hx.out (by omega)).mono ?_
                rintro e w' ⟨rfl, hb'⟩
                exact ⟨rfl, hb'⟩
              try simp only [Act.put, List.setIfInBounds_toArray, List.set_cons_succ, List.set_cons_zero, List.nil_append, List.cons_append]
              apply wpGrowV_fix (.bool true) rfl rfl
              · intro W hb hF
                go_simp
                go_at_call 43
                refine (refBelow_any xl (clearF p xa) W).mono ?_
                rintro e w' ⟨rfl, rfl⟩
                exact ⟨by rw [hokb], xrefl _⟩
              try simp only [Act.put, List.setIfInBounds_toArray, List.set_cons_succ, List.set_cons_zero, List.nil_append, List.cons_append]
              apply wpGrowV_fix (.bool false) rfl rfl
              · intro W hb hF
                go_simp
                first | exact xrefl W | exact ⟨rfl, xrefl W⟩
              try simp only [Act.put, List.setIfInBounds_toArray, List.set_cons_succ, List.set_cons_zero, List.nil_append, List.cons_append]
              intro W hbW _
              replace hb3 := Lib.hid (xtrans hb3.out hbW)
              replace hXr := Lib.hid (fun j v hj => cbel hbW (hXr.out j v hj))
              replace cent := Lib.hid (cbel hbW cent.out)
              replace cW3 := Lib.hid (cbel hbW cW3.out)
              replace hC3 := Lib.hid (hC3.out.below hbW)
              clear hPr clab hno1 hokb hbW
              by_cases hi0 : i = 0
              · have hi0I : ¬ (i : Int) > 0 := by omega
                replace hfirst := Lib.hid (hfirst.out hi0)
                clear hi0
                go_wp2
                exact ⟨⟨i + 1, by first | rfl | simp, by omega, hb3, hok1, hfirst⟩, by simp [intOf]; omega⟩
              · obtain ⟨k, hk⟩ : ∃ k, i = k + 1 := ⟨i - 1, by omega⟩
                have hkl : k < p.rels.length := by omega
                obtain ⟨hp1, hp2⟩ := hprev.out k hk
                obtain ⟨g2, o2, e2, hrowk⟩ := hC3.out.re.elt k hkl
                cases e2
                have hy := Lib.hid (hok.out.adrR (List.getElem_mem hkl))
                rcases hye : p.rels[k] with ⟨ya, ye, yl⟩
                rw [hye] at hp1 hp2 hrowk hy
                dsimp only at hy
                replace hrowk := Lib.hid hrowk
                have hi0I : (i : Int) > 0 := by omega
                have hkI : (k : Int) < p.rels.length := by omega
                have hsub : IntKind.i64.wrap ((i : Int) - 1) = (k : Int) := by subst hk; simp [IntKind.wrap, IntKind.bits, IntKind.signed]; omega
                have hwk : IntKind.i64.wrap (k : Int) = (k : Int) := by simp [IntKind.wrap, IntKind.bits, IntKind.signed]; omega
                have cW3' := cW3.out
                clear hye hi0 hprev hfirst hC3 hk
                rcases ordA_is ya xa with hn | hn | hn
                · have hord : Hid (∀ W, Calls Tryz.prog 22 #[adrV ya, adrV xa] W fun e w' => e = .returned (.int .i64 (-1)) ∧ Below W.heap.size W w') := Lib.hid fun W => by have := refOrder_any ya xa W hy.out hx.out; rw [hn] at this; exact this
                  have hpv := Lib.hid (hp1 (by unfold ordR; dsimp only; rw [hn, if_neg (by decide)]; decide))
                  clear hp1 hp2
                  clear hn
                  unfold adrV at hord
                  go_wp2_with (first
                  | (refine wpList_load_mid rfl 67 _ rfl g (o + k * 22) rfl (relC (ya, ye, yl)) _ hrowk.out Tryz.underlying67 rfl (by rw [relC_len hy.out]; kernel_rfl) ?_)
                  | (refine wpList_store_blkG rfl 67 _ _ rfl W.heap.size rfl 67 [.int .u8 0, .int .u8 0, .int .u8 0, .int .u8 0, .int .u8 0, .int .u8 0, .int .u8 0, .int .u8 0, .int .u8 0, .int .u8 0, .int .u8 0, .int .u8 0, .int .u8 0, .int .u8 0, .int .u8 0, .int .u8 0, .int .u8 0, .int .u8 0, .int .u8 0, .int .u8 0, .int .u32 0, .int .u64 0] (relC (ya, ye, yl)) (BlkG.new W _ _) rfl (by rw [relC_len hy.out]; rfl) (by rw [relC_len hy.out]; kernel_rfl) (relC_one _) ?_; intro w5 hY ho5; have hb5 := Lib.hid (ho5.below (xalloc (xrefl W) _) (xalloc (xrefl W) (.cells ([.int .u8 0, .int .u8 0, .int .u8 0, .int .u8 0, .int .u8 0, .int .u8 0, .int .u8 0, .int .u8 0, .int .u8 0, .int .u8 0, .int .u8 0, .int .u8 0, .int .u8 0, .int .u8 0, .int .u8 0, .int .u8 0, .int .u8 0, .int .u8 0, .int .u8 0, .int .u8 0, .int .u32 0, .int .u64 0] : List Value).toArray 67)).size (by rintro k rfl; exact Nat.le_refl _)); have hXr5 := Lib.hid (fun j v hj => cbel hb5.out (hXr.out j v hj)); have cent5 := Lib.hid (cbel hb5.out cent.out); have hYr := Lib.hid (BlkG.range hY); have cye : w5.cell? ⟨W.heap.size, 20, none⟩ = some (.int .u32 ye) := (by have := hYr.out 20 _ (ent_get ya hy.out.len ye yl).1; rwa [Nat.zero_add] at this); replace cye := Lib.hid cye; clear ho5 hY)
                  | (refine wpList_load_mid rfl 29 _ rfl W.heap.size 0 rfl (adrC ya) _ (fun j v hj => hYr.out j v (pre_get hj)) Tryz.underlying29 rfl (by rw [adrC_len, hy.out.len]; kernel_rfl) ?_)
                  | (refine wpList_load_mid rfl 29 _ rfl B1 0 rfl (adrC xa) _ (fun j v hj => hXr5.out j v (pre_get hj)) Tryz.underlying29 rfl (by rw [adrC_len, hx.out.len]; kernel_rfl) ?_)
                  | (go_at_call 22; refine (hord.out _).mono ?_; rintro e w6 ⟨rfl, hb6⟩; have c6x := cbel hb6 cent5.out; have c6y := cbel hb6 cye.out; have hb56 := Lib.hid (xtrans hb5.out hb6); clear hb6))
                  have hb7 := Lib.hid (xtrans hb3.out hb56.out)
                  exact ⟨⟨i + 1, by first | rfl | simp, by omega, hb7, hok1, hpv⟩, by simp [intOf]; omega⟩
                · by_cases hyx : ye < xe
                  · have hord : Hid (∀ W, Calls Tryz.prog 22 #[adrV ya, adrV xa] W fun e w' => e = .returned (.int .i64 (0)) ∧ Below W.heap.size W w') := Lib.hid fun W => by have := refOrder_any ya xa W hy.out hx.out; rw [hn] at this; exact this
                    have hyxI : (ye : Int) < xe := by omega
                    have hpv := Lib.hid (hp1 (by unfold ordR; dsimp only; rw [if_pos hn]; unfold cmpI; rw [if_pos hyx]; decide))
                    clear hp1 hp2 hyx
                    clear hn
                    unfold adrV at hord
                    go_wp2_with (first
                  | (refine wpList_load_mid rfl 67 _ rfl g (o + k * 22) rfl (relC (ya, ye, yl)) _ hrowk.out Tryz.underlying67 rfl (by rw [relC_len hy.out]; kernel_rfl) ?_)
                  | (refine wpList_store_blkG rfl 67 _ _ rfl W.heap.size rfl 67 [.int .u8 0, .int .u8 0, .int .u8 0, .int .u8 0, .int .u8 0, .int .u8 0, .int .u8 0, .int .u8 0, .int .u8 0, .int .u8 0, .int .u8 0, .int .u8 0, .int .u8 0, .int .u8 0, .int .u8 0, .int .u8 0, .int .u8 0, .int .u8 0, .int .u8 0, .int .u8 0, .int .u32 0, .int .u64 0] (relC (ya, ye, yl)) (BlkG.new W _ _) rfl (by rw [relC_len hy.out]; rfl) (by rw [relC_len hy.out]; kernel_rfl) (relC_one _) ?_; intro w5 hY ho5; have hb5 := Lib.hid (ho5.below (xalloc (xrefl W) _) (xalloc (xrefl W) (.cells ([.int .u8 0, .int .u8 0, .int .u8 0, .int .u8 0, .int .u8 0, .int .u8 0, .int .u8 0, .int .u8 0, .int .u8 0, .int .u8 0, .int .u8 0, .int .u8 0, .int .u8 0, .int .u8 0, .int .u8 0, .int .u8 0, .int .u8 0, .int .u8 0, .int .u8 0, .int .u8 0, .int .u32 0, .int .u64 0] : List Value).toArray 67)).size (by rintro k rfl; exact Nat.le_refl _)); have hXr5 := Lib.hid (fun j v hj => cbel hb5.out (hXr.out j v hj)); have cent5 := Lib.hid (cbel hb5.out cent.out); have hYr := Lib.hid (BlkG.range hY); have cye : w5.cell? ⟨W.heap.size, 20, none⟩ = some (.int .u32 ye) := (by have := hYr.out 20 _ (ent_get ya hy.out.len ye yl).1; rwa [Nat.zero_add] at this); replace cye := Lib.hid cye; clear ho5 hY)
                  | (refine wpList_load_mid rfl 29 _ rfl W.heap.size 0 rfl (adrC ya) _ (fun j v hj => hYr.out j v (pre_get hj)) Tryz.underlying29 rfl (by rw [adrC_len, hy.out.len]; kernel_rfl) ?_)
                  | (refine wpList_load_mid rfl 29 _ rfl B1 0 rfl (adrC xa) _ (fun j v hj => hXr5.out j v (pre_get hj)) Tryz.underlying29 rfl (by rw [adrC_len, hx.out.len]; kernel_rfl) ?_)
                  | (go_at_call 22; refine (hord.out _).mono ?_; rintro e w6 ⟨rfl, hb6⟩; have c6x := cbel hb6 cent5.out; have c6y := cbel hb6 cye.out; have hb56 := Lib.hid (xtrans hb5.out hb6); clear hb6))
                    have hb7 := Lib.hid (xtrans hb3.out hb56.out)
                    exact ⟨⟨i + 1, by first | rfl | simp, by omega, hb7, hok1, hpv⟩, by simp [intOf]; omega⟩
                  · have hord : Hid (∀ W, Calls Tryz.prog 22 #[adrV ya, adrV xa] W fun e w' => e = .returned (.int .i64 (0)) ∧ Below W.heap.size W w') := Lib.hid fun W => by have := refOrder_any ya xa W hy.out hx.out; rw [hn] at this; exact this
                    have hyxI : ¬ (ye : Int) < xe := by omega
                    have hpv := Lib.hid (hp2 (by unfold ordR; dsimp only; rw [if_pos hn]; have := cmpI_ge hyx; omega))
                    clear hp1 hp2 hyx
                    clear hn
                    unfold adrV at hord
                    go_wp2_with (first
                  | (refine wpList_load_mid rfl 67 _ rfl g (o + k * 22) rfl (relC (ya, ye, yl)) _ hrowk.out Tryz.underlying67 rfl (by rw [relC_len hy.out]; kernel_rfl) ?_)
                  | (refine wpList_store_blkG rfl 67 _ _ rfl W.heap.size rfl 67 [.int .u8 0, .int .u8 0, .int .u8 0, .int .u8 0, .int .u8 0, .int .u8 0, .int .u8 0, .int .u8 0, .int .u8 0, .int .u8 0, .int .u8 0, .int .u8 0, .int .u8 0, .int .u8 0, .int .u8 0, .int .u8 0, .int .u8 0, .int .u8 0, .int .u8 0, .int .u8 0, .int .u32 0, .int .u64 0] (relC (ya, ye, yl)) (BlkG.new W _ _) rfl (by rw [relC_len hy.out]; rfl) (by rw [relC_len hy.out]; kernel_rfl) (relC_one _) ?_; intro w5 hY ho5; have hb5 := Lib.hid (ho5.below (xalloc (xrefl W) _) (xalloc (xrefl W) (.cells ([.int .u8 0, .int .u8 0, .int .u8 0, .int .u8 0, .int .u8 0, .int .u8 0, .int .u8 0, .int .u8 0, .int .u8 0, .int .u8 0, .int .u8 0, .int .u8 0, .int .u8 0, .int .u8 0, .int .u8 0, .int .u8 0, .int .u8 0, .int .u8 0, .int .u8 0, .int .u8 0, .int .u32 0, .int .u64 0] : List Value).toArray 67)).size (by rintro k rfl; exact Nat.le_refl _)); have hXr5 := Lib.hid (fun j v hj => cbel hb5.out (hXr.out j v hj)); have cent5 := Lib.hid (cbel hb5.out cent.out); have hYr := Lib.hid (BlkG.range hY); have cye : w5.cell? ⟨W.heap.size, 20, none⟩ = some (.int .u32 ye) := (by have := hYr.out 20 _ (ent_get ya hy.out.len ye yl).1; rwa [Nat.zero_add] at this); replace cye := Lib.hid cye; clear ho5 hY)
                  | (refine wpList_load_mid rfl 29 _ rfl W.heap.size 0 rfl (adrC ya) _ (fun j v hj => hYr.out j v (pre_get hj)) Tryz.underlying29 rfl (by rw [adrC_len, hy.out.len]; kernel_rfl) ?_)
                  | (refine wpList_load_mid rfl 29 _ rfl B1 0 rfl (adrC xa) _ (fun j v hj => hXr5.out j v (pre_get hj)) Tryz.underlying29 rfl (by rw [adrC_len, hx.out.len]; kernel_rfl) ?_)
                  | (go_at_call 22; refine (hord.out _).mono ?_; rintro e w6 ⟨rfl, hb6⟩; have c6x := cbel hb6 cent5.out; have c6y := cbel hb6 cye.out; have hb56 := Lib.hid (xtrans hb5.out hb6); clear hb6))
                    go_ret
                    exact ⟨by rw [hpv.out]; rfl, xtrans hbe.out (xtrans hb3.out hb56.out)⟩
                · have hord : Hid (∀ W, Calls Tryz.prog 22 #[adrV ya, adrV xa] W fun e w' => e = .returned (.int .i64 (1)) ∧ Below W.heap.size W w') := Lib.hid fun W => by have := refOrder_any ya xa W hy.out hx.out; rw [hn] at this; exact this
                  have hpv := Lib.hid (hp2 (by unfold ordR; dsimp only; rw [hn, if_neg (by decide)]; decide))
                  clear hp1 hp2
                  clear hn
                  unfold adrV at hord
                  go_wp2_with (first
                  | (refine wpList_load_mid rfl 67 _ rfl g (o + k * 22) rfl (relC (ya, ye, yl)) _ hrowk.out Tryz.underlying67 rfl (by rw [relC_len hy.out]; kernel_rfl) ?_)
                  | (refine wpList_store_blkG rfl 67 _ _ rfl W.heap.size rfl 67 [.int .u8 0, .int .u8 0, .int .u8 0, .int .u8 0, .int .u8 0, .int .u8 0, .int .u8 0, .int .u8 0, .int .u8 0, .int .u8 0, .int .u8 0, .int .u8 0, .int .u8 0, .int .u8 0, .int .u8 0, .int .u8 0, .int .u8 0, .int .u8 0, .int .u8 0, .int .u8 0, .int .u32 0, .int .u64 0] (relC (ya, ye, yl)) (BlkG.new W _ _) rfl (by rw [relC_len hy.out]; rfl) (by rw [relC_len hy.out]; kernel_rfl) (relC_one _) ?_; intro w5 hY ho5; have hb5 := Lib.hid (ho5.below (xalloc (xrefl W) _) (xalloc (xrefl W) (.cells ([.int .u8 0, .int .u8 0, .int .u8 0, .int .u8 0, .int .u8 0, .int .u8 0, .int .u8 0, .int .u8 0, .int .u8 0, .int .u8 0, .int .u8 0, .int .u8 0, .int .u8 0, .int .u8 0, .int .u8 0, .int .u8 0, .int .u8 0, .int .u8 0, .int .u8 0, .int .u8 0, .int .u32 0, .int .u64 0] : List Value).toArray 67)).size (by rintro k rfl; exact Nat.le_refl _)); have hXr5 := Lib.hid (fun j v hj => cbel hb5.out (hXr.out j v hj)); have cent5 := Lib.hid (cbel hb5.out cent.out); have hYr := Lib.hid (BlkG.range hY); have cye : w5.cell? ⟨W.heap.size, 20, none⟩ = some (.int .u32 ye) := (by have := hYr.out 20 _ (ent_get ya hy.out.len ye yl).1; rwa [Nat.zero_add] at this); replace cye := Lib.hid cye; clear ho5 hY)
                  | (refine wpList_load_mid rfl 29 _ rfl W.heap.size 0 rfl (adrC ya) _ (fun j v hj => hYr.out j v (pre_get hj)) Tryz.underlying29 rfl (by rw [adrC_len, hy.out.len]; kernel_rfl) ?_)
                  | (refine wpList_load_mid rfl 29 _ rfl B1 0 rfl (adrC xa) _ (fun j v hj => hXr5.out j v (pre_get hj)) Tryz.underlying29 rfl (by rw [adrC_len, hx.out.len]; kernel_rfl) ?_)
                  | (go_at_call 22; refine (hord.out _).mono ?_; rintro e w6 ⟨rfl, hb6⟩; have c6x := cbel hb6 cent5.out; have c6y := cbel hb6 cye.out; have hb56 := Lib.hid (xtrans hb5.out hb6); clear hb6))
                  go_ret
                  exact ⟨by rw [hpv.out]; rfl, xtrans hbe.out (xtrans hb3.out hb56.out)⟩
          · obtain rfl : i = p.rels.length := by omega
            have hfin := Lib.hid (hgood.out ⟨hrise.out, (rise_iff _ _).2 fun j h => hs2.out j h h, List.all_eq_true.2 fun x hx => by
              obtain ⟨j, hj, rfl⟩ := List.getElem_of_mem hx
              exact hs1.out j hj hj⟩)
            clear hlt
            go_wp2
            go_ret
            exact ⟨by rw [hfin.out]; rfl, xtrans hbe.out hw.out⟩
end Go.Proofs.YthpallkphamobaaGreatDoor
