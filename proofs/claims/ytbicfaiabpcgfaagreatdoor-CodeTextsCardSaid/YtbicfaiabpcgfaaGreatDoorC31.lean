/- Texts of this claim, merged; no condition. -/
import Derived.Test.YtbicfaiabpcgfaaGreatDoorC30
set_option linter.all false
namespace Go.Proofs.YtbicfaiabpcgfaaGreatDoor
open Go.RowKit Go.Shelf

theorem code_of {w : World} {a : Option Addr} {c : Nat} {zs : List Int} (hl : zs.length ≤ c ∧ c ≤ 9223372036854775807) (hr : RowAt .u8 w a zs) (ha : a = none → c = 0) (hw : ∀ z ∈ zs, (Lit.int .u8 z).wf = true) (h2 : zs.length ≤ 1000) :
    ∃ cs, zs = natI cs ∧ CodeAt w a c cs := by
  have hz : ∀ z ∈ zs, 0 ≤ z ∧ z ≤ 255 := fun z h => by
    have := hw z h
    simp [Lit.wf, IntKind.min, IntKind.max, IntKind.signed, IntKind.bits] at this
    exact ⟨by omega, by omega⟩
  have e : zs = natI (zs.map Int.toNat) := by
    apply List.ext_getElem (by simp [natI])
    intro i h1 h2
    have := hz zs[i] (List.getElem_mem h1)
    simp [natI]
    omega
  exact ⟨zs.map Int.toNat, e, by rw [← e]; exact hr, ha, by rw [List.length_map]; exact h2, fun x hx => by
    obtain ⟨z, h, rfl⟩ := List.mem_map.1 hx
    have := hz z h
    omega, by rw [List.length_map]; exact hl⟩
theorem row_head {w : World} {a : Option Addr} {l r : List Nat} (h : RowAt .u8 w a (natI (l ++ r))) : RowAt .u8 w a (natI l) := fun i hi => by
  have hi2 : i < (natI (l ++ r)).length := by rw [natI_len] at hi ⊢; rw [List.length_append]; omega
  obtain ⟨b, o, e, hc⟩ := h i hi2
  refine ⟨b, o, e, hc.trans ?_⟩
  have hi3 : i < l.length := by simpa [natI] using hi
  simp only [natI, List.map_append]
  rw [List.getElem_append_left (by simpa using hi3)]
theorem run_head (W : World) (a : Option Addr) (n k c : Nat) (hk : k ≤ n) (hn : n ≤ c) (hc : c ≤ 9223372036854775807) : (Instr.slice 32 (.slice a n c) none (some (.int .i64 k)) none).run Tryz.prog W = .ok (.slice a k c) W := by
  have h1 : (k : Int) ≤ c := by omega
  have h2 : (k : Int) ≤ 9223372036854775807 := by omega
  cases a with
  | none => go_simp
  | some a => go_simp
set_option maxRecDepth 100000 in
set_option maxHeartbeats 16000000 in
theorem codeTexts_walk (a : Option Addr) (c : Nat) (zs : List Int) (w : World) (hl : zs.length ≤ c ∧ c ≤ 9223372036854775807) (hr : RowAt .u8 w a zs) (ha : a = none → c = 0) (hw : ∀ z ∈ zs, (Lit.int .u8 z).wf = true) (hT : Tab w) :
    Calls Tryz.prog 5 #[.slice a zs.length c] w (Yes w) := by
  have hwk := Lib.hid fun W (h : Below w.heap.size w W) => works10_at W (hT.below h)
  by_cases h : (zs.length : Int) > 300
  · clear hr ha hw hl
    go_enter Tryz.func5, Tryz.ntmps5
    go_wp2_with (go_at_call 8; refine (hwk.out _ (xrefl w)).mono ?_; rintro e w9 ⟨rfl, b9⟩)
    go_ret
    exact ⟨rfl, b9⟩
  · obtain ⟨cs, rfl, hC⟩ := code_of hl hr ha hw (by omega)
    rw [natI_len] at h ⊢
    have hcs : cs.length ≤ 300 := by omega
    obtain ⟨k, hk, hpad⟩ := padded_shape cs
    have htx := Lib.hid (text_any cs a c w hC)
    have hrt0 := fun W (hb : Below w.heap.size w W) => refText_any cs a c W (hC.below hb)
    have hsl0 := text_len hC.ok
    have hps := text_parse hC.ok
    have hpt := padded_text hC.ok
    have hno : parseNo (textC cs) = 0 := by unfold parseNo; rw [if_neg (by omega), hps]
    have hL : parseL (textC cs) = paddedC cs := by unfold parseL; rw [if_neg (by omega), hps]; rfl
    have hokp : ∀ x ∈ paddedC cs, x < 256 := fun x hx => by
      rw [hpad] at hx
      rcases List.mem_append.1 hx with h | h
      · exact hC.ok x h
      · have := List.eq_of_mem_replicate h; omega
    have hp0 := fun W (hb : Below w.heap.size w W) => (show Calls Tryz.prog 16 #[.string ⟨(textC cs).toArray⟩] W _ by obtain ⟨m, hm⟩ := hT.below hb; exact parse_any (textC cs) m W (by omega) hm)
    have hr0 := fun W => refParse_any (textC cs) W (by omega)
    have htp0 := fun W a c (h : CodeAt W a c (paddedC cs)) => text_any (paddedC cs) a c W h
    simp only [hno, hL] at hp0 hr0
    simp only [hpt] at htp0
    have hlp : (paddedC cs).length = cs.length + k := by rw [hpad]; simp
    have hz : ∀ i, cs.length ≤ i → i < (paddedC cs).length → byN (paddedC cs) i = 0 := fun i h1 h2 => by
      obtain ⟨j, rfl⟩ : ∃ j, i = cs.length + j := ⟨i - cs.length, by omega⟩
      have hj : j < k := by omega
      rw [hpad, byN_app]
      unfold byN
      simp [List.getD_eq_getElem?_getD, List.getElem?_replicate, hj]
    have hhd : ∀ W a, RowAt .u8 W a (natI (paddedC cs)) → RowAt .u8 W a (natI cs) := fun W a h => by rw [hpad] at h; exact row_head h
    generalize textC cs = s at *
    generalize paddedC cs = pd at *
    have hpl : pd.length ≤ 332 := by omega
    have hpl2 : cs.length ≤ pd.length := by omega
    have hpl3 : pd.length ≤ cs.length + 32 := by omega
    clear hpad hlp hps hpt hno hL hsl0
    replace hrt0 := Lib.hid hrt0
    replace hp0 := Lib.hid hp0
    replace hr0 := Lib.hid hr0
    replace htp0 := Lib.hid htp0
    replace hz := Lib.hid hz
    replace hhd := Lib.hid hhd
    have hok := Lib.hid hokp
    have hokc := Lib.hid hC.ok
    have hnm := Lib.hid num_any
    have hcap := hC.cap
    clear hr ha hw hl hT hokp
    replace hC := Lib.hid hC
    go_enter Tryz.func5, Tryz.ntmps5
    go_wp2_with (first
      | (go_at_call 15; refine htx.out.mono ?_; rintro e w1 ⟨rfl, hb1⟩; replace hC := Lib.hid (hC.out.below hb1); replace hb1 := Lib.hid hb1; clear htx)
      | (go_at_call 16; refine (hp0.out _ hb1.out).mono ?_; rintro e w2 ⟨⟨v2, rfl, ho2⟩, hb2⟩; obtain ⟨aM, cM, rfl, hM⟩ := ho2.code (by omega) hok.out; have hcM := hM.cap; replace hM := Lib.hid hM; replace hC := Lib.hid (hC.out.below hb2); replace hb1 := Lib.hid (xtrans hb1.out hb2))
      | (go_at_call 17; refine (hr0.out _).mono ?_; rintro e w3 ⟨⟨v3, rfl, ho3⟩, hb3⟩; obtain ⟨aN, cN, rfl, hN, -⟩ := ho3.at; replace hN := Lib.hid hN; replace hM := Lib.hid (hM.out.below hb3); replace hC := Lib.hid (hC.out.below hb3); replace hb1 := Lib.hid (xtrans hb1.out hb3))
      | fail)
    have hwr : IntKind.i64.wrap ((cs.length : Int) + 32) = (cs.length : Int) + 32 := by simp [IntKind.wrap, IntKind.bits, IntKind.signed]; omega
    have hplI : (pd.length : Int) ≤ (cs.length : Int) + 32 := by omega
    have hplJ : (cs.length : Int) ≤ (pd.length : Int) := by omega
    have hMc := Lib.hid (hhd.out _ _ hM.out.row)
    have hsl := Lib.hid fun W => run_head W aM pd.length cs.length cM hpl2 hcM.1 hcM.2
    have hrt : Hid (∀ W, Below w3.heap.size w3 W → Calls Tryz.prog 18 #[.slice a cs.length c] W fun e w' => e = .returned (.string ⟨s.toArray⟩) ∧ Below W.heap.size W w') := Lib.hid fun W hb => hrt0.out W (xtrans hb1.out hb)
    refine' wp_region_growL 45 [fixd (.string ⟨s.toArray⟩), fixd (.slice a cs.length c), fixd (.string ⟨s.toArray⟩), fixd (.bool false), fixd (.bool false), fixd (.int .i64 (0 : Nat)), fixd (.int .i64 (0 : Nat)), fixd (.bool false), fixd (.bool false), fixd (.bool false), fixd (.int .i64 (0 : Nat)), fixd (.bool false), fixd (.bool false), fixd (.bool false), fixd (.slice aM pd.length cM), fixd (.string ⟨(pd.map UInt8.ofNat).toArray⟩), fixd (.slice aN pd.length cN), fixd (.string ⟨(pd.map UInt8.ofNat).toArray⟩), fixd (.bool false), fixd (.bool false), fixd (.bool false), fixd (.slice aM pd.length cM), fixd (.int .i64 pd.length), fixd (.slice a cs.length c), fixd (.int .i64 cs.length), fixd (.bool false), fixd (.bool false), fixd (.bool false), fixd (.slice aM pd.length cM), fixd (.int .i64 pd.length), fixd (.slice a cs.length c), fixd (.int .i64 cs.length), fixd (.int .i64 (cs.length + 32)), fixd (.bool false), fixd (.bool false), fixd (.bool false), fixd (.slice aM pd.length cM), fixd (.slice a cs.length c), fixd (.int .i64 cs.length), fixd (.slice aM cs.length cM), fixd (.string ⟨(cs.map UInt8.ofNat).toArray⟩), fixd (.slice a cs.length c), fixd (.string ⟨(cs.map UInt8.ofNat).toArray⟩), fixd (.bool false), fixd (.bool false)] (by kernel_rfl) (by kernel_rfl) ?_
    simp only [List.take_succ_cons, List.take_zero, List.drop_succ_cons, List.drop_zero]
    try simp only [Act.put, List.setIfInBounds_toArray, List.set_cons_succ, List.set_cons_zero, List.nil_append, List.cons_append]
    apply wpGrowV_fix (.string ⟨s.toArray⟩) rfl rfl
    · intro W hb hF
      go_simp
      first | exact xrefl W | exact ⟨rfl, xrefl W⟩
    try simp only [Act.put, List.setIfInBounds_toArray, List.set_cons_succ, List.set_cons_zero, List.nil_append, List.cons_append]
    apply wpGrowV_fix (.slice a cs.length c) rfl rfl
    · intro W hb hF
      go_simp
      first | exact xrefl W | exact ⟨rfl, xrefl W⟩
    try simp only [Act.put, List.setIfInBounds_toArray, List.set_cons_succ, List.set_cons_zero, List.nil_append, List.cons_append]
    apply wpGrowV_fix (.string ⟨s.toArray⟩) rfl rfl
    · intro W hb hF
      go_simp
      go_at_call 18
      refine (hrt.out W hb).mono ?_
      rintro e w' ⟨rfl, hb'⟩
      exact ⟨rfl, hb'⟩
    try simp only [Act.put, List.setIfInBounds_toArray, List.set_cons_succ, List.set_cons_zero, List.nil_append, List.cons_append]
    apply wpGrowV_fix (.bool false) rfl rfl
    · intro W hb hF
      go_simp
      first | exact xrefl W | exact ⟨rfl, xrefl W⟩
    try simp only [Act.put, List.setIfInBounds_toArray, List.set_cons_succ, List.set_cons_zero, List.nil_append, List.cons_append]
    apply wpGrowV_fix (.bool false) rfl rfl
    · intro W hb hF
      go_simp
      first | exact xrefl W | exact ⟨rfl, xrefl W⟩
    try simp only [Act.put, List.setIfInBounds_toArray, List.set_cons_succ, List.set_cons_zero, List.nil_append, List.cons_append]
    apply wpGrowV_fix (.int .i64 (0 : Nat)) rfl rfl
    · intro W hb hF
      go_simp
      first | exact xrefl W | exact ⟨rfl, xrefl W⟩
    try simp only [Act.put, List.setIfInBounds_toArray, List.set_cons_succ, List.set_cons_zero, List.nil_append, List.cons_append]
    apply wpGrowV_fix (.int .i64 (0 : Nat)) rfl rfl
    · intro W hb hF
      go_simp
      go_at_call 19
      refine (hnm.out 0 W).mono ?_
      rintro e w' ⟨rfl, hb'⟩
      exact ⟨rfl, hb'⟩
    try simp only [Act.put, List.setIfInBounds_toArray, List.set_cons_succ, List.set_cons_zero, List.nil_append, List.cons_append]
    apply wpGrowV_fix (.bool false) rfl rfl
    · intro W hb hF
      go_simp
      first | exact xrefl W | exact ⟨rfl, xrefl W⟩
    try simp only [Act.put, List.setIfInBounds_toArray, List.set_cons_succ, List.set_cons_zero, List.nil_append, List.cons_append]
    apply wpGrowV_fix (.bool false) rfl rfl
    · intro W hb hF
      go_simp
      first | exact xrefl W | exact ⟨rfl, xrefl W⟩
    try simp only [Act.put, List.setIfInBounds_toArray, List.set_cons_succ, List.set_cons_zero, List.nil_append, List.cons_append]
    apply wpGrowV_fix (.bool false) rfl rfl
    · intro W hb hF
      go_simp
      first | exact xrefl W | exact ⟨rfl, xrefl W⟩
    try simp only [Act.put, List.setIfInBounds_toArray, List.set_cons_succ, List.set_cons_zero, List.nil_append, List.cons_append]
    apply wpGrowV_fix (.int .i64 (0 : Nat)) rfl rfl
    · intro W hb hF
      go_simp
      first | exact xrefl W | exact ⟨rfl, xrefl W⟩
    try simp only [Act.put, List.setIfInBounds_toArray, List.set_cons_succ, List.set_cons_zero, List.nil_append, List.cons_append]
    apply wpGrowV_fix (.bool false) rfl rfl
    · intro W hb hF
      go_simp
      first | exact xrefl W | exact ⟨rfl, xrefl W⟩
    try simp only [Act.put, List.setIfInBounds_toArray, List.set_cons_succ, List.set_cons_zero, List.nil_append, List.cons_append]
    apply wpGrowV_fix (.bool false) rfl rfl
    · intro W hb hF
      go_simp
      first | exact xrefl W | exact ⟨rfl, xrefl W⟩
    try simp only [Act.put, List.setIfInBounds_toArray, List.set_cons_succ, List.set_cons_zero, List.nil_append, List.cons_append]
    apply wpGrowV_fix (.bool false) rfl rfl
    · intro W hb hF
      go_simp
      first | exact xrefl W | exact ⟨rfl, xrefl W⟩
    try simp only [Act.put, List.setIfInBounds_toArray, List.set_cons_succ, List.set_cons_zero, List.nil_append, List.cons_append]
    apply wpGrowV_fix (.slice aM pd.length cM) rfl rfl
    · intro W hb hF
      go_simp
      first | exact xrefl W | exact ⟨rfl, xrefl W⟩
    try simp only [Act.put, List.setIfInBounds_toArray, List.set_cons_succ, List.set_cons_zero, List.nil_append, List.cons_append]
    apply wpGrowV_fix (.string ⟨(pd.map UInt8.ofNat).toArray⟩) rfl rfl
    · intro W hb hF
      have c := conv_row W aM cM pd (hM.out.row.below hb) hok.out
      go_simp
      exact xrefl W
    try simp only [Act.put, List.setIfInBounds_toArray, List.set_cons_succ, List.set_cons_zero, List.nil_append, List.cons_append]
    apply wpGrowV_fix (.slice aN pd.length cN) rfl rfl
    · intro W hb hF
      go_simp
      first | exact xrefl W | exact ⟨rfl, xrefl W⟩
    try simp only [Act.put, List.setIfInBounds_toArray, List.set_cons_succ, List.set_cons_zero, List.nil_append, List.cons_append]
    apply wpGrowV_fix (.string ⟨(pd.map UInt8.ofNat).toArray⟩) rfl rfl
    · intro W hb hF
      have c := conv_row W aN cN pd (hN.out.below hb) hok.out
      go_simp
      exact xrefl W
    try simp only [Act.put, List.setIfInBounds_toArray, List.set_cons_succ, List.set_cons_zero, List.nil_append, List.cons_append]
    apply wpGrowV_fix (.bool false) rfl rfl
    · intro W hb hF
      go_simp
      first | exact xrefl W | exact ⟨rfl, xrefl W⟩
    try simp only [Act.put, List.setIfInBounds_toArray, List.set_cons_succ, List.set_cons_zero, List.nil_append, List.cons_append]
    apply wpGrowV_fix (.bool false) rfl rfl
    · intro W hb hF
      go_simp
      first | exact xrefl W | exact ⟨rfl, xrefl W⟩
    try simp only [Act.put, List.setIfInBounds_toArray, List.set_cons_succ, List.set_cons_zero, List.nil_append, List.cons_append]
    apply wpGrowV_fix (.bool false) rfl rfl
    · intro W hb hF
      go_simp
      first | exact xrefl W | exact ⟨rfl, xrefl W⟩
    try simp only [Act.put, List.setIfInBounds_toArray, List.set_cons_succ, List.set_cons_zero, List.nil_append, List.cons_append]
    apply wpGrowV_fix (.slice aM pd.length cM) rfl rfl
    · intro W hb hF
      go_simp
      first | exact xrefl W | exact ⟨rfl, xrefl W⟩
    try simp only [Act.put, List.setIfInBounds_toArray, List.set_cons_succ, List.set_cons_zero, List.nil_append, List.cons_append]
    apply wpGrowV_fix (.int .i64 pd.length) rfl rfl
    · intro W hb hF
      go_simp
      first | exact xrefl W | exact ⟨rfl, xrefl W⟩
    try simp only [Act.put, List.setIfInBounds_toArray, List.set_cons_succ, List.set_cons_zero, List.nil_append, List.cons_append]
    apply wpGrowV_fix (.slice a cs.length c) rfl rfl
    · intro W hb hF
      go_simp
      first | exact xrefl W | exact ⟨rfl, xrefl W⟩
    try simp only [Act.put, List.setIfInBounds_toArray, List.set_cons_succ, List.set_cons_zero, List.nil_append, List.cons_append]
    apply wpGrowV_fix (.int .i64 cs.length) rfl rfl
    · intro W hb hF
      go_simp
      first | exact xrefl W | exact ⟨rfl, xrefl W⟩
    try simp only [Act.put, List.setIfInBounds_toArray, List.set_cons_succ, List.set_cons_zero, List.nil_append, List.cons_append]
    apply wpGrowV_fix (.bool false) rfl rfl
    · intro W hb hF
      go_simp
      first | exact xrefl W | exact ⟨rfl, xrefl W⟩
    try simp only [Act.put, List.setIfInBounds_toArray, List.set_cons_succ, List.set_cons_zero, List.nil_append, List.cons_append]
    apply wpGrowV_fix (.bool false) rfl rfl
    · intro W hb hF
      go_simp
      first | exact xrefl W | exact ⟨rfl, xrefl W⟩
    try simp only [Act.put, List.setIfInBounds_toArray, List.set_cons_succ, List.set_cons_zero, List.nil_append, List.cons_append]
    apply wpGrowV_fix (.bool false) rfl rfl
    · intro W hb hF
      go_simp
      first | exact xrefl W | exact ⟨rfl, xrefl W⟩
    try simp only [Act.put, List.setIfInBounds_toArray, List.set_cons_succ, List.set_cons_zero, List.nil_append, List.cons_append]
    apply wpGrowV_fix (.slice aM pd.length cM) rfl rfl
    · intro W hb hF
      go_simp
      first | exact xrefl W | exact ⟨rfl, xrefl W⟩
    try simp only [Act.put, List.setIfInBounds_toArray, List.set_cons_succ, List.set_cons_zero, List.nil_append, List.cons_append]
    apply wpGrowV_fix (.int .i64 pd.length) rfl rfl
    · intro W hb hF
      go_simp
      first | exact xrefl W | exact ⟨rfl, xrefl W⟩
    try simp only [Act.put, List.setIfInBounds_toArray, List.set_cons_succ, List.set_cons_zero, List.nil_append, List.cons_append]
    apply wpGrowV_fix (.slice a cs.length c) rfl rfl
    · intro W hb hF
      go_simp
      first | exact xrefl W | exact ⟨rfl, xrefl W⟩
    try simp only [Act.put, List.setIfInBounds_toArray, List.set_cons_succ, List.set_cons_zero, List.nil_append, List.cons_append]
    apply wpGrowV_fix (.int .i64 cs.length) rfl rfl
    · intro W hb hF
      go_simp
      first | exact xrefl W | exact ⟨rfl, xrefl W⟩
    try simp only [Act.put, List.setIfInBounds_toArray, List.set_cons_succ, List.set_cons_zero, List.nil_append, List.cons_append]
    apply wpGrowV_fix (.int .i64 (cs.length + 32)) rfl rfl
    · intro W hb hF
      go_simp
      first | exact xrefl W | exact ⟨rfl, xrefl W⟩
    try simp only [Act.put, List.setIfInBounds_toArray, List.set_cons_succ, List.set_cons_zero, List.nil_append, List.cons_append]
    apply wpGrowV_fix (.bool false) rfl rfl
    · intro W hb hF
      go_simp
      first | exact xrefl W | exact ⟨rfl, xrefl W⟩
    try simp only [Act.put, List.setIfInBounds_toArray, List.set_cons_succ, List.set_cons_zero, List.nil_append, List.cons_append]
    apply wpGrowV_fix (.bool false) rfl rfl
    · intro W hb hF
      go_simp
      first | exact xrefl W | exact ⟨rfl, xrefl W⟩
    try simp only [Act.put, List.setIfInBounds_toArray, List.set_cons_succ, List.set_cons_zero, List.nil_append, List.cons_append]
    apply wpGrowV_fix (.bool false) rfl rfl
    · intro W hb hF
      go_simp
      first | exact xrefl W | exact ⟨rfl, xrefl W⟩
    try simp only [Act.put, List.setIfInBounds_toArray, List.set_cons_succ, List.set_cons_zero, List.nil_append, List.cons_append]
    apply wpGrowV_fix (.slice aM pd.length cM) rfl rfl
    · intro W hb hF
      go_simp
      first | exact xrefl W | exact ⟨rfl, xrefl W⟩
    try simp only [Act.put, List.setIfInBounds_toArray, List.set_cons_succ, List.set_cons_zero, List.nil_append, List.cons_append]
    apply wpGrowV_fix (.slice a cs.length c) rfl rfl
    · intro W hb hF
      go_simp
      first | exact xrefl W | exact ⟨rfl, xrefl W⟩
    try simp only [Act.put, List.setIfInBounds_toArray, List.set_cons_succ, List.set_cons_zero, List.nil_append, List.cons_append]
    apply wpGrowV_fix (.int .i64 cs.length) rfl rfl
    · intro W hb hF
      go_simp
      first | exact xrefl W | exact ⟨rfl, xrefl W⟩
    try simp only [Act.put, List.setIfInBounds_toArray, List.set_cons_succ, List.set_cons_zero, List.nil_append, List.cons_append]
    apply wpGrowV_fix (.slice aM cs.length cM) rfl rfl
    · intro W hb hF
      have c := hsl.out W
      go_simp
      exact xrefl W
    try simp only [Act.put, List.setIfInBounds_toArray, List.set_cons_succ, List.set_cons_zero, List.nil_append, List.cons_append]
    apply wpGrowV_fix (.string ⟨(cs.map UInt8.ofNat).toArray⟩) rfl rfl
    · intro W hb hF
      have c := conv_row W aM cM cs (hMc.out.below hb) hokc.out
      go_simp
      exact xrefl W
    try simp only [Act.put, List.setIfInBounds_toArray, List.set_cons_succ, List.set_cons_zero, List.nil_append, List.cons_append]
    apply wpGrowV_fix (.slice a cs.length c) rfl rfl
    · intro W hb hF
      go_simp
      first | exact xrefl W | exact ⟨rfl, xrefl W⟩
    try simp only [Act.put, List.setIfInBounds_toArray, List.set_cons_succ, List.set_cons_zero, List.nil_append, List.cons_append]
    apply wpGrowV_fix (.string ⟨(cs.map UInt8.ofNat).toArray⟩) rfl rfl
    · intro W hb hF
      have c := conv_row W a c cs ((hC.out.below hb).row) hokc.out
      go_simp
      exact xrefl W
    try simp only [Act.put, List.setIfInBounds_toArray, List.set_cons_succ, List.set_cons_zero, List.nil_append, List.cons_append]
    apply wpGrowV_fix (.bool false) rfl rfl
    · intro W hb hF
      go_simp
      first | exact xrefl W | exact ⟨rfl, xrefl W⟩
    try simp only [Act.put, List.setIfInBounds_toArray, List.set_cons_succ, List.set_cons_zero, List.nil_append, List.cons_append]
    apply wpGrowV_fix (.bool false) rfl rfl
    · intro W hb hF
      go_simp
      first | exact xrefl W | exact ⟨rfl, xrefl W⟩
    try simp only [Act.put, List.setIfInBounds_toArray, List.set_cons_succ, List.set_cons_zero, List.nil_append, List.cons_append]
    intro W hbW _
    have hM5 := Lib.hid (hM.out.below hbW)
    have hb5 := Lib.hid (xtrans hb1.out hbW)
    clear hMc hsl hrt hrt0 hN hC hp0 hr0 hhd hM hb1 hbW
    go_wp2
    go_loopw [8] (fun iv wx => ∃ i : Nat, iv = .int .i64 i ∧ cs.length ≤ i ∧ i ≤ pd.length ∧ wx = W) (fun iv _ => pd.length - (intOf iv).toNat)
    case atStart => exact ⟨cs.length, rfl, by omega, by omega, rfl⟩
    case round =>
      obtain ⟨i, rfl, hi1, hi2, rfl⟩ := hrel
      by_cases hlt : i < pd.length
      · have hltI : (i : Int) < pd.length := by omega
        obtain ⟨b, o, rfl, hc, -⟩ := hM5.out.get hlt
        rw [hz.out i hi1 hlt] at hc
        have hwi : IntKind.i64.wrap ((i : Int) + 1) = (i : Int) + 1 := by simp [IntKind.wrap, IntKind.bits, IntKind.signed]; omega
        go_wp2
        exact ⟨⟨i + 1, by first | rfl | simp, by omega, by omega, by first | rfl | trivial⟩, by simp [intOf]; omega⟩
      · have hge : (pd.length : Int) ≤ (i : Int) := by omega
        obtain rfl : i = pd.length := by omega
        go_wp2_with (first
          | (go_at_call 15; refine (htp0.out _ _ _ hM5.out).mono ?_; rintro e w7 ⟨rfl, hb7⟩; replace hb5 := Lib.hid (xtrans hb5.out hb7))
          | (go_at_call 8; refine (hwk.out _ hb5.out).mono ?_; rintro e w9 ⟨rfl, b9⟩))
        go_ret
        exact ⟨rfl, xtrans hb5.out b9⟩
end Go.Proofs.YtbicfaiabpcgfaaGreatDoor
