/- Texts of this claim, merged; no condition. -/
import Derived.Test.YtbicfaiabpcgfaaGreatDoorC05
import Derived.Test.YtbicfaiabpcgfaaGreatDoorC06
set_option linter.all false
namespace Go.Proofs.YtbicfaiabpcgfaaGreatDoor
open Go.RowKit Go.Shelf

theorem run_digI : ∀ (d : Nat), d < 16 → ∀ W : World, (Instr.index 9 (.string ⟨#[48, 49, 50, 51, 52, 53, 54, 55, 56, 57, 97, 98, 99, 100, 101, 102]⟩) (.int .i64 d)).run Tryz.prog W = .ok (.int .u8 ((hexc d).toNat : Nat)) W
  | 0, _, _ => by kernel_rfl
  | 1, _, _ => by kernel_rfl
  | 2, _, _ => by kernel_rfl
  | 3, _, _ => by kernel_rfl
  | 4, _, _ => by kernel_rfl
  | 5, _, _ => by kernel_rfl
  | 6, _, _ => by kernel_rfl
  | 7, _, _ => by kernel_rfl
  | 8, _, _ => by kernel_rfl
  | 9, _, _ => by kernel_rfl
  | 10, _, _ => by kernel_rfl
  | 11, _, _ => by kernel_rfl
  | 12, _, _ => by kernel_rfl
  | 13, _, _ => by kernel_rfl
  | 14, _, _ => by kernel_rfl
  | 15, _, _ => by kernel_rfl
  | n + 16, h, _ => absurd h (by omega)
theorem named_look (s : List UInt8) (h : ∀ c, c < 256 → (namedN c && (infoN c).name == s) = false) : namedO s = none := by
  unfold namedO
  rw [List.find?_eq_none]
  intro c hc
  rw [h c (List.mem_range.1 hc)]
  simp
set_option maxRecDepth 100000 in
set_option maxHeartbeats 8000000 in
theorem refNamed_any (s : List UInt8) (w : World) : Calls Tryz.prog 12 #[.string ⟨s.toArray⟩] w fun e w' => e = .returned (.tuple #[.int .u8 ((namedO s).getD 0 : Nat), .bool (namedO s).isSome]) ∧ Below w.heap.size w w' := by
  have hI := Lib.hid fun (c : Nat) W (hc : c < 256) => refInfo_any c W hc
  have h0 : Hid (Below w.heap.size w w) := Lib.hid (xrefl w)
  go_enter Tryz.func12, Tryz.ntmps12
  go_wp2
  go_loopw [4] (fun iv wx => ∃ i : Nat, i ≤ 256 ∧ iv = .int .i64 i ∧ Hid (∀ c, c < i → (namedN c && (infoN c).name == s) = false) ∧ Hid (Below w.heap.size w wx)) (fun iv _ => 256 - (intOf iv).toNat)
  case atStart => exact ⟨0, by omega, rfl, Lib.hid fun c h => by omega, h0⟩
  case round =>
    clear h0
    obtain ⟨i, hi, rfl, hno, hb⟩ := hrel
    by_cases hlt : i < 256
    · have hltI : (i : Int) < 256 := by omega
      have hw8 : IntKind.u8.wrap (i : Int) = (i : Int) := by simp [IntKind.wrap, IntKind.bits, IntKind.signed]; omega
      have hIi := Lib.hid (hI.out i wr hlt)
      have hnm := info_named i hlt
      have hhit : Hid (namedN i = true → ((infoN i).name == s) = true → namedO s = some i) := Lib.hid fun h1 h2 => by rw [← eq_of_beq h2]; exact named_name i hlt h1
      have hnx : Hid ((namedN i && (infoN i).name == s) = false → ∀ c, c < i + 1 → (namedN c && (infoN c).name == s) = false) := Lib.hid fun h c hc => by
        by_cases e : c = i
        · subst e; exact h
        · exact hno.out c (by omega)
      generalize infoN i = X at *
      generalize namedN i = nb at *
      have hws := hb.out.size
      obtain ⟨nm, iN, oN, gN, qN, zN⟩ := X
      by_cases he : nm = []
      · subst he
        have hnf : nb = false := by cases nb with
          | false => rfl
          | true => simp at hnm
        subst hnf
        have hn2 := Lib.hid (hnx.out rfl)
        clear hnx hhit hnm
        unfold infoV at hIi
        go_wp2_with (first
          | (go_at_call 10; refine hIi.out.mono ?_; rintro e w4 ⟨rfl, hb4⟩; have hq4 := Lib.hid (xtrans hb.out hb4); clear hb4)
          | (refine wpList_store_blkG rfl 25 _ _ rfl w4.heap.size rfl 25 noV (infL ⟨[], iN, oN, gN, qN, zN⟩) (BlkG.new w4 _ _) rfl rfl (by kernel_rfl) rfl ?_; intro w5 hX5 ho5; have hb5 := ho5.below (xalloc (xrefl w4) _) (by rw [World.size_alloc]; omega) (by rintro k rfl; exact Nat.le_refl _); have hc5 := hX5.cell 0 (by show 0 < 6; omega); simp only [infL, List.getElem_cons_zero] at hc5; replace hb5 := Lib.hid (xtrans hq4.out hb5); clear ho5 hX5))
        exact ⟨⟨i + 1, by omega, by go_num, hn2, hb5⟩, by simp [intOf] <;> omega⟩
      · have hie : nm.isEmpty = false := by cases nm with
          | nil => exact absurd rfl he
          | cons _ _ => rfl
        have hnt : nb = true := by cases nb with
          | true => rfl
          | false => simp [he] at hnm
        subst hnt
        cases ht : (nm == s) with
        | true =>
          have hq := hhit.out rfl ht
          clear hnx hhit hnm
          go_wp2_with (first
            | (go_at_call 10; refine hIi.out.mono ?_; rintro e w4 ⟨rfl, hb4⟩; have hq4 := Lib.hid (xtrans hb.out hb4); clear hb4)
            | (refine wpList_store_blkG rfl 25 _ _ rfl w4.heap.size rfl 25 noV (infL ⟨nm, iN, oN, gN, qN, zN⟩) (BlkG.new w4 _ _) rfl rfl (by kernel_rfl) rfl ?_; intro w5 hX5 ho5; have hb5 := ho5.below (xalloc (xrefl w4) _) (by rw [World.size_alloc]; omega) (by rintro k rfl; exact Nat.le_refl _); have hc5 := hX5.cell 0 (by show 0 < 6; omega); simp only [infL, List.getElem_cons_zero] at hc5; replace hb5 := Lib.hid (xtrans hq4.out hb5); clear ho5 hX5))
          go_ret2
          rw [hq]
          exact ⟨rfl, hb5.out⟩
        | false =>
          have hn2 := Lib.hid (hnx.out (by simpa using ht))
          clear hnx hhit hnm
          go_wp2_with (first
            | (go_at_call 10; refine hIi.out.mono ?_; rintro e w4 ⟨rfl, hb4⟩; have hq4 := Lib.hid (xtrans hb.out hb4); clear hb4)
            | (refine wpList_store_blkG rfl 25 _ _ rfl w4.heap.size rfl 25 noV (infL ⟨nm, iN, oN, gN, qN, zN⟩) (BlkG.new w4 _ _) rfl rfl (by kernel_rfl) rfl ?_; intro w5 hX5 ho5; have hb5 := ho5.below (xalloc (xrefl w4) _) (by rw [World.size_alloc]; omega) (by rintro k rfl; exact Nat.le_refl _); have hc5 := hX5.cell 0 (by show 0 < 6; omega); simp only [infL, List.getElem_cons_zero] at hc5; replace hb5 := Lib.hid (xtrans hq4.out hb5); clear ho5 hX5))
          exact ⟨⟨i + 1, by omega, by go_num, hn2, hb5⟩, by simp [intOf] <;> omega⟩
    · obtain rfl : i = 256 := by omega
      have hq := named_look s hno.out
      go_wp2
      go_ret2
      rw [hq]
      exact ⟨rfl, hb.out⟩
theorem digO_look {c : Nat} (hc : c < 256) (h : ∀ d, d < 16 → (hexc d).toNat ≠ c) : digO (UInt8.ofNat c) = none := by
  unfold digO
  rw [List.find?_eq_none]
  intro d hd
  have := h d (List.mem_range.1 hd)
  simp only [beq_iff_eq]
  intro e
  rw [e] at this
  simp at this
  omega
theorem digO_hit {c d : Nat} (hd : d < 16) (h : (hexc d).toNat = c) : digO (UInt8.ofNat c) = some d := by
  have : UInt8.ofNat c = hexc d := by rw [← h]; simp
  rw [this]; exact dig_hex d hd
def digI (c : Nat) : Int := match digO (UInt8.ofNat c) with | some d => (d : Int) | none => -1
set_option maxRecDepth 100000 in
set_option maxHeartbeats 4000000 in
theorem refDigit_any (c : Nat) (w : World) (hc : c < 256) : Calls Tryz.prog 64 #[.int .u8 c] w fun e w' => e = .returned (.int .i64 (digI c)) ∧ w' = w := by
  have hdg := Lib.hid fun d h W => run_dig d h W
  go_enter Tryz.func64, Tryz.ntmps64
  go_wp2
  go_loopw [3] (fun iv wx => ∃ i : Nat, i ≤ 16 ∧ iv = .int .i64 i ∧ Hid (∀ d, d < i → (hexc d).toNat ≠ c) ∧ wx = w) (fun iv _ => 16 - (intOf iv).toNat)
  case atStart => exact ⟨0, by omega, rfl, Lib.hid fun c h => by omega, rfl⟩
  case round =>
    obtain ⟨i, hi, rfl, hno, rfl⟩ := hrel
    by_cases hlt : i < 16
    · have hltI : (i : Int) < 16 := by omega
      have hdi := fun W => hdg.out i hlt W
      have hdi2 : ∀ W, (Instr.index 9 (.string ⟨#[48, 49, 50, 51, 52, 53, 54, 55, 56, 57, 97, 98, 99, 100, 101, 102]⟩) (.int .i64 i)).run Tryz.prog W = .ok (.int .u8 ((hexc i).toNat : Nat)) W := run_digI i hlt
      have hnx : Hid ((hexc i).toNat ≠ c → ∀ d, d < i + 1 → (hexc d).toNat ≠ c) := Lib.hid fun h d hd => by
        by_cases e : d = i
        · subst e; exact h
        · exact hno.out d (by omega)
      have hhit : Hid ((hexc i).toNat = c → digI c = i) := Lib.hid fun h => by unfold digI; rw [digO_hit hlt h]
      clear hdi
      generalize (hexc i).toNat = u at *
      by_cases hu : u = c
      · have hq := hhit.out hu
        subst hu
        clear hnx hhit
        replace hq := Lib.hid hq
        go_wp2
        go_ret
        rw [hq.out]
        exact ⟨rfl, rfl⟩
      · have hn2 := Lib.hid (hnx.out hu)
        have huI : ((u : Int) == (c : Int)) = false := by simp; omega
        have huI2 : ¬ (u : Int) = (c : Int) := by omega
        clear hnx hhit hu
        go_wp2
        exact ⟨⟨i + 1, by omega, by go_num, hn2, trivial⟩, by simp [intOf] <;> omega⟩
    · obtain rfl : i = 16 := by omega
      have hq : digI c = -1 := by unfold digI; rw [digO_look hc hno.out]
      go_wp2
      go_ret
      rw [hq]
      exact ⟨rfl, rfl⟩
end Go.Proofs.YtbicfaiabpcgfaaGreatDoor
namespace Go.Proofs.YtbicfaiabpcgfaaGreatDoor
open Go.RowKit

theorem refSize_any (c : Nat) (w : World) (hc : c < 256) : Calls Tryz.prog 10 #[.int .u8 c] w fun e w' => (∃ nm i o g q, e = .returned (.agg #[.string nm, .int .i64 i, .int .i64 o, .int .u64 g, .bool q, .int .i64 (szN c)])) ∧ Below w.heap.size w w' :=
  (refInfo_any c w hc).mono fun e w' h => ⟨⟨⟨(infoN c).name.toArray⟩, (infoN c).ins, (infoN c).outs, (infoN c).gas, (infoN c).quiet, by rw [h.1]; unfold infoV; rw [info_size c hc]⟩, h.2⟩
@[go_sem high] theorem field_size (v0 v1 v2 v3 v4 v5 : Value) (w : World) : (Instr.field 25 (.agg #[v0, v1, v2, v3, v4, v5]) 5).run Tryz.prog w = .ok v5 w := by kernel_rfl
def inN (l : List Nat) (n : Int) : Bool := l.any fun x => (x : Int) == n
theorem inN_nat (l : List Nat) (n : Nat) : inN l n = decide (n ∈ l) := by
  unfold inN
  rw [Bool.eq_iff_iff, List.any_eq_true, decide_eq_true_eq]
  constructor
  · rintro ⟨x, h1, h2⟩
    rw [beq_iff_eq, Int.ofNat_inj] at h2
    rw [← h2]; exact h1
  · intro h; exact ⟨n, h, by simp⟩
set_option maxRecDepth 100000 in
set_option maxHeartbeats 1000000 in
theorem refOps_anyL (cs : List Nat) (a : Option Addr) (c : Nat) (w : World) (h : CodeL w a c cs) :
    Calls Tryz.prog 13 #[.slice a cs.length c] w fun e w' => (∃ v, e = .returned v ∧ OwnI w w' v (opsL cs)) ∧ Below w.heap.size w w' := by
  obtain ⟨i0, hi, hz0, hz1, hz2⟩ := info_parts info_int
  have hcl := h.len
  replace h := Lib.hid h
  go_enter Tryz.func13, Tryz.ntmps13
  go_wp2
  go_loopw [3, 4] (fun v i wx => ∃ (pre : List Nat) (k : Nat), k ≤ cs.length + 33 ∧ i = .int .i64 k ∧ Hid (OwnI w wx v pre) ∧ Hid (opsL cs = pre ++ opsA cs k) ∧ Hid (Below w.heap.size w wx)) (fun _ i _ => 1048700 - (intOf i).toNat)
  case atStart => exact ⟨[], 0, by omega, rfl, Lib.hid (OwnI.nil w), Lib.hid rfl, Lib.hid (xrefl w)⟩
  case round =>
    obtain ⟨pre, k, hk, rfl, hown, hpre, hb⟩ := hrel
    by_cases hlt : k < cs.length
    · have hlt2 : (k : Int) < cs.length := by omega
      have hlt3 : ¬ (cs.length : Int) ≤ k := by omega
      obtain ⟨b, o, rfl, -, h256⟩ := h.out.get hlt
      have hcell : Hid (∀ W, Below w.heap.size w W → W.cell? ⟨b, o + k, none⟩ = some (.int .u8 (byN cs k))) := Lib.hid fun W hW => by
        obtain ⟨b', o', e, hc, -⟩ := (h.out.below hW).get hlt
        cases e; exact hc
      have hpl : pre.length ≤ 1048576 := by
        have := congrArg List.length hpre.out
        rw [List.length_append] at this
        have := opsL_len cs
        omega
      have hsb : w.heap.size ≤ (wr.alloc (.cells #[.int .i64 (k : Int)] 3)).heap.size := by rw [World.size_alloc]; have := hb.out.size; omega
      have hnx : Hid (nxN cs k = k + 1 + szN (byN cs k)) := Lib.hid rfl
      have hpre2 : Hid (opsL cs = (pre ++ [k]) ++ opsA cs (nxN cs k)) := Lib.hid (by rw [hpre.out, opsA_lt hlt]; simp)
      have hsz := szN_le (byN cs k)
      have hinf := Lib.hid fun W => refSize_any (byN cs k) W h256
      clear hpre
      generalize nxN cs k = nx at *
      generalize szN (byN cs k) = sz at *
      generalize byN cs k = x at *
      go_wp2_with (first
        | (at_builtin; refine wpList_append_row (wr.alloc (.cells #[.int .i64 (k : Int)] 3)) rfl _ _ 33 rfl w.heap.size 3 i0 (.int .i64 0) 8 Tryz.underlying33 hi hz0 hz1 hz2 rfl _ pre.length _ rfl (hown.out.alloc _) (some ⟨wr.heap.size, 0, none⟩) 1 .i64 [(k : Int)] rfl (by simp) (rowAt_one wr 3 (k : Int)) (by unfold maxLen; simp; omega) (by simp; omega) hsb ?_; intro v3 w3 ho3 hg3; have hb3 := (xalloc hb.out _).grown hg3 hsb (fun j hj => (hown.out.lt j hj).1); have hc3 := hcell.out w3 hb3; replace hb3 := Lib.hid hb3; replace ho3 := Lib.hid ho3; clear hg3)
        | (go_at_call 10; refine (hinf.out _).mono ?_; rintro e w4 ⟨⟨nm, i, o, g, q, rfl⟩, hb4⟩; replace hb4 := Lib.hid hb4))
      refine ⟨⟨pre ++ [k], nx, by have := hnx.out; omega, by have := hnx.out; simp; omega, Lib.hid ?_, hpre2, Lib.hid (xtrans hb3.out hb4.out)⟩, by have := hnx.out; simp [intOf]; omega⟩
      refine OwnI.below (l := pre ++ [k]) (w' := w3) ?_ hb4.out
      unfold OwnI
      rw [List.length_append, natI_app, List.map_append]
      exact ho3.out
    · have e : opsL cs = pre := by rw [hpre.out, opsA_ge (by omega)]; simp
      have hown2 : Hid (OwnI w wr _ (opsL cs)) := Lib.hid (by rw [e]; exact hown.out)
      have hlt3 : (cs.length : Int) ≤ k := by omega
      clear hlt hown hpre e
      go_wp2
      go_ret
      exact ⟨⟨_, rfl, hown2.out⟩, hb.out⟩
theorem refOps_any (cs : List Nat) (a : Option Addr) (c : Nat) (w : World) (h : CodeAt w a c cs) :
    Calls Tryz.prog 13 #[.slice a cs.length c] w fun e w' => (∃ v, e = .returned v ∧ OwnI w w' v (opsL cs)) ∧ Below w.heap.size w w' :=
  refOps_anyL cs a c w h.long
end Go.Proofs.YtbicfaiabpcgfaaGreatDoor
namespace Go.Proofs.YtbicfaiabpcgfaaGreatDoor
open Go.RowKit

theorem marks_step {cs : List Nat} {k : Nat} (h : k < (opsL cs).length) : ((opsL cs).take (k + 1)).filter (fun i => byN cs i == 91) = ((opsL cs).take k).filter (fun i => byN cs i == 91) ++ if byN cs (opsL cs)[k] = 91 then [(opsL cs)[k]] else [] := by
  rw [List.take_succ_eq_append_getElem h, List.filter_append]
  congr 1
  by_cases e : byN cs (opsL cs)[k] = 91
  · simp [e]
  · simp [e]
/-! Bytes as a word. -/
theorem numN_byte : ∀ (r : List Nat) (i : Nat), (∀ x ∈ r, x < 256) → byteAt (numN r.reverse) i = r.getD i 0
  | [], i, _ => by simp [numN, byteAt]
  | b :: r, 0, h => by
    have := h b (by simp)
    rw [List.reverse_cons, numN_snoc]
    unfold byteAt
    simp
    omega
  | b :: r, i + 1, h => by
    have hb := h b (by simp)
    rw [List.reverse_cons, numN_snoc]
    have e : byteAt (numN r.reverse * 256 + b) (i + 1) = byteAt (numN r.reverse) i := by
      unfold byteAt
      rw [Nat.pow_succ, Nat.mul_comm (256 ^ i), ← Nat.div_div_eq_div_mul]
      congr 2
      omega
    rw [e, numN_byte r i fun x hx => h x (by simp [hx])]
    simp
end Go.Proofs.YtbicfaiabpcgfaaGreatDoor
namespace Go.Proofs.YtbicfaiabpcgfaaGreatDoor
open Go.RowKit

theorem info_u8 : (Tryz.prog.info? 5).map (fun i => (i.zero, i.size, i.bytes)) = some (some (Value.int .u8 0), 1, 1) := by kernel_rfl
/-- The bytes behind an op, the first k laid. -/
def behL (cs : List Nat) (i k : Nat) : List Int := (List.range (szN (byN cs i))).map fun j => if j < k then ((byN cs (i + 1 + j) : Nat) : Int) else 0
theorem behL_len (cs : List Nat) (i k : Nat) : (behL cs i k).length = szN (byN cs i) := by simp [behL]
theorem behL_zero (cs : List Nat) (i : Nat) : behL cs i 0 = List.replicate (szN (byN cs i)) 0 := by
  apply List.ext_getElem
  · simp [behL]
  · intro j h1 h2
    rw [List.getElem_replicate]
    simp [behL]
theorem behL_set (cs : List Nat) (i k : Nat) (hk : k < szN (byN cs i)) : (behL cs i k).set k ((byN cs (i + 1 + k) : Nat) : Int) = behL cs i (k + 1) := by
  apply List.ext_getElem
  · simp [behL]
  · intro j h1 h2
    rw [List.getElem_set]
    simp only [behL, List.getElem_map, List.getElem_range]
    by_cases e : k = j
    · subst e; rw [if_pos rfl, if_pos (by omega)]
    · rw [if_neg e]
      by_cases h3 : j < k
      · rw [if_pos h3, if_pos (by omega)]
      · rw [if_neg h3, if_neg (by omega)]
theorem behL_out (cs : List Nat) (i k : Nat) (hk : cs.length ≤ i + 1 + k) : behL cs i (k + 1) = behL cs i k := by
  apply List.ext_getElem
  · simp [behL]
  · intro j h1 h2
    simp only [behL, List.getElem_map, List.getElem_range]
    by_cases e : j = k
    · subst e
      rw [if_pos (by omega), if_neg (by omega)]
      unfold byN
      rw [List.getD_eq_getElem?_getD, List.getElem?_eq_none (by omega)]; rfl
    · by_cases h3 : j < k
      · rw [if_pos h3, if_pos (by omega)]
      · rw [if_neg h3, if_neg (by omega)]
theorem behL_all (cs : List Nat) (i : Nat) : behL cs i (szN (byN cs i)) = natI (restN cs i) := by
  apply List.ext_getElem
  · simp [behL, natI, restN]
  · intro j h1 h2
    have : j < szN (byN cs i) := by simpa [behL] using h1
    simp [behL, natI, restN, this]
set_option maxRecDepth 100000 in
set_option maxHeartbeats 1000000 in
theorem refBehind_anyL (cs : List Nat) (i : Nat) (a : Option Addr) (c : Nat) (w : World) (h : CodeL w a c cs) (hlt : i < cs.length) :
    Calls Tryz.prog 47 #[.slice a cs.length c, .int .i64 i] w fun e w' => (∃ b n, e = .returned (.slice (some ⟨b, 0, none⟩) (restN cs i).length n) ∧ RowAt .u8 w' (some ⟨b, 0, none⟩) (natI (restN cs i))) ∧ Below w.heap.size w w' := by
  obtain ⟨i0, hi0, hz0, hz1, hz2⟩ := info_parts info_u8
  have hsz := szN_le (byN cs i)
  have hmk : Hid (∀ W, (Instr.makeSlice 32 (.int .i64 (szN (byN cs i) : Int)) (.int .i64 (szN (byN cs i) : Int))).run Tryz.prog W = .ok (.slice (some ⟨W.heap.size, 0, none⟩) (szN (byN cs i)) (szN (byN cs i))) (W.alloc (.cells ((List.replicate (szN (byN cs i)) (0 : Int)).map (Value.int .u8)).toArray 5))) := Lib.hid fun W =>
    run_mk_ints 32 5 i0 .u8 1 Tryz.underlying32 hi0 hz0 hz1 hz2 (szN (byN cs i)) _ rfl (by omega) (by omega) W
  have hcl := h.len
  have hltI : (i : Int) < cs.length := by omega
  have hrl := restN_len cs i
  have hcells : Hid (∀ W, Below w.heap.size w W → ∃ b o, a = some ⟨b, o, none⟩ ∧ ∀ k, k < cs.length → W.cell? ⟨b, o + k, none⟩ = some (.int .u8 (byN cs k))) := Lib.hid fun W hW => by
    obtain ⟨b, o, e, -, -⟩ := (h.below hW).get hlt
    refine ⟨b, o, e, fun k hk => ?_⟩
    obtain ⟨b', o', e', hc, -⟩ := (h.below hW).get hk
    rw [e] at e'; cases e'; exact hc
  have h256 : Hid (∀ k, byN cs k < 256) := Lib.hid fun k => byN_lt h.ok k
  obtain ⟨b, o, rfl, hc0⟩ := hcells.out w (xrefl w)
  have hc1 := hc0 i hlt
  have hinf := Lib.hid (refSize_any (byN cs i) w (h256.out i))
  have hzero := behL_zero cs i
  have hall := behL_all cs i
  have hset := Lib.hid (behL_set cs i)
  have hout := Lib.hid (behL_out cs i)
  have hlen := Lib.hid (behL_len cs i)
  replace hc0 := Lib.hid hc0
  generalize hsN : szN (byN cs i) = sz at *
  generalize hxN : byN cs i = x at *
  replace hsN := Lib.hid hsN
  replace hxN := Lib.hid hxN
  replace hzero := Lib.hid hzero
  replace hall := Lib.hid hall
  replace hrl := Lib.hid hrl
  clear hi0 hz0 hz1 hz2 h hc0
  go_enter Tryz.func47, Tryz.ntmps47
  go_wp2_with (go_at_call 10; refine hinf.out.mono ?_; rintro e w1 ⟨⟨nm, ii, oo, g, q, rfl⟩, hb1⟩; replace hb1 := Lib.hid hb1)
  rw [hmk.out]
  have hB0 : Hid (Blk .u8 (w1.alloc (.cells ((List.replicate sz (0 : Int)).map (Value.int .u8)).toArray 5)) w1.heap.size 5 (List.replicate sz 0)) := Lib.hid (Blk.new w1 _ _)
  have hb0 : Hid (Below w.heap.size w (w1.alloc (.cells ((List.replicate sz (0 : Int)).map (Value.int .u8)).toArray 5))) := Lib.hid (xalloc hb1.out _)
  have hgw : w.heap.size ≤ w1.heap.size := hb1.out.size
  generalize w1.alloc (.cells ((List.replicate sz (0 : Int)).map (Value.int .u8)).toArray 5) = w2 at hB0 hb0 ⊢
  generalize w1.heap.size = gb at hB0 hgw ⊢
  clear hmk hb1 hinf
  go_wp2
  go_loopw [6] (fun iv wx => ∃ k : Nat, k ≤ sz ∧ iv = .int .i64 k ∧ Hid (Blk .u8 wx gb 5 (behL cs i k)) ∧ Hid (Below w.heap.size w wx)) (fun iv _ => 32 - (intOf iv).toNat)
  case atStart => exact ⟨0, by omega, rfl, by rw [hzero.out]; exact hB0, hb0⟩
  case round =>
    clear hB0 hb0
    obtain ⟨k, hk, rfl, hB, hb⟩ := hrel
    by_cases hk2 : k < sz
    · have hkI : (k : Int) < sz := by omega
      have hkN : ¬ (sz : Int) ≤ k := by omega
      by_cases hin : i + 1 + k < cs.length
      · have hinI : (i : Int) + 1 + (k : Int) < cs.length := by omega
        obtain ⟨b', o', e', hc⟩ := hcells.out wr hb.out
        cases e'
        have hc2 := hc (i + 1 + k) hin
        have ej : (i : Int) + 1 + (k : Int) = ((i + 1 + k : Nat) : Int) := by omega
        have hc3 := hB.out.cell k (by rw [hlen.out]; exact hk2)
        have hf3 := hB.out.frozen k
        have hS := hB.out.set k ((byN cs (i + 1 + k) : Nat) : Int)
        rw [hset.out k hk2] at hS
        have hb2 := xsetb hb.out (c := gb) (i := k) hgw (.int .u8 ((byN cs (i + 1 + k) : Nat) : Int))
        have hy := h256.out (i + 1 + k)
        replace hS := Lib.hid hS
        replace hb2 := Lib.hid hb2
        generalize (behL cs i k)[k]'_ = y0 at *
        rw [ej] at hinI
        generalize hJ : i + 1 + k = j at *
        replace hJ := Lib.hid hJ
        generalize byN cs j = y at *
        clear hc hB hb hin
        go_wp2
        exact ⟨⟨k + 1, by omega, rfl, hS, hb2⟩, by simp [intOf]; omega⟩
      · have hinI : ¬ (i : Int) + 1 + (k : Int) < cs.length := by omega
        have e := hout.out k (by omega)
        rw [← e] at hB
        clear hin e
        go_wp2
        exact ⟨⟨k + 1, by omega, rfl, hB, hb⟩, by simp [intOf]; omega⟩
    · obtain rfl : k = sz := by omega
      rw [hall.out] at hB
      have hR : RowAt .u8 wr (some ⟨gb, 0, none⟩) (natI (restN cs i)) := by have := hB.out.row 0; simpa using this
      have hkN : (k : Int) ≤ k := by omega
      replace hR := Lib.hid hR
      clear hB hk2
      go_wp2
      go_ret
      exact ⟨⟨gb, k, by rw [hrl.out]; rfl, hR.out⟩, hb.out⟩
theorem refBehind_any (cs : List Nat) (i : Nat) (a : Option Addr) (c : Nat) (w : World) (h : CodeAt w a c cs) (hlt : i < cs.length) :
    Calls Tryz.prog 47 #[.slice a cs.length c, .int .i64 i] w fun e w' => (∃ b n, e = .returned (.slice (some ⟨b, 0, none⟩) (restN cs i).length n) ∧ RowAt .u8 w' (some ⟨b, 0, none⟩) (natI (restN cs i))) ∧ Below w.heap.size w w' :=
  refBehind_anyL cs i a c w h.long hlt
end Go.Proofs.YtbicfaiabpcgfaaGreatDoor
namespace Go.Proofs.YtbicfaiabpcgfaaGreatDoor
open Go.RowKit Go.Shelf

def OwnU (w w' : World) (v : Value) (bs : List Nat) : Prop := w'.ownsRow w.heap.size 5 1 v bs.length ((natI bs).map (Value.int .u8))
theorem OwnU.nil (w w' : World) : OwnU w w' (.slice none 0 0) [] := ⟨rfl, .inl ⟨rfl, rfl⟩⟩
theorem unhexP_step {l : List UInt8} {bs : List Nat} {a b : UInt8} {r : List UInt8} (h : unhexP l = (unhexP (a :: b :: r)).map (bs ++ ·)) :
    (∀ x y, digO a = some x → digO b = some y → unhexP l = (unhexP r).map (bs ++ [16 * x + y] ++ ·)) ∧ ((digO a = none ∨ digO b = none) → unhexP l = none) := by
  constructor
  · intro x y hx hy
    rw [h, unhexP, hx, hy]
    cases unhexP r with
    | none => rfl
    | some z => simp
  · intro hn
    rw [h, unhexP]
    rcases hn with hn | hn
    · rw [hn]; rfl
    · rw [hn]; cases digO a <;> rfl
theorem unhexP_odd : ∀ (l : List UInt8), l.length % 2 = 1 → unhexP l = none
  | [], h => by simp at h
  | [_], _ => rfl
  | a :: b :: l, h => by
    rw [unhexP, unhexP_odd l (by simp at h; omega)]
    cases digO a <;> cases digO b <;> rfl
theorem drop_two {α : Type} (l : List α) (k : Nat) (h : k + 1 < l.length) : l.drop k = l[k]'(by omega) :: l[k + 1] :: l.drop (k + 2) := by
  rw [List.drop_eq_getElem_cons (by omega), List.drop_eq_getElem_cons (by omega)]
theorem run_at_str (l : List UInt8) (j : Nat) (h : j < l.length) (W : World) : (Instr.index 9 (.string ⟨l.toArray⟩) (.int .i64 j)).run Tryz.prog W = .ok (.int .u8 (l[j].toNat : Nat)) W := by
  rw [run_index_string W 9 ⟨l.toArray⟩ .i64 j Tryz.underlying9]
  have hs : (⟨l.toArray⟩ : ByteArray).size = l.length := by show l.toArray.size = _; simp
  rw [dif_pos ⟨by omega, by rw [hs]; omega⟩]
  rfl
theorem run_cut2 (l : List UInt8) (W : World) (h : 2 ≤ l.length) : (Instr.slice 9 (.string ⟨l.toArray⟩) none (some (.int .i64 2)) none).run Tryz.prog W = .ok (.string ⟨(l.take 2).toArray⟩) W := by
  have hs : (⟨l.toArray⟩ : ByteArray).size = l.length := by show l.toArray.size = _; simp
  rw [run_slice_string_h W 9 ⟨l.toArray⟩ Tryz.underlying9 .i64 2 (by omega) (by rw [hs]; omega)]
  refine congrArg (fun b : ByteArray => Result.ok (Value.string b) W) ?_
  apply ByteArray.ext
  simp
theorem digI_some {c : UInt8} {d : Nat} (h : digO c = some d) : digI c.toNat = d := by unfold digI; rw [show UInt8.ofNat c.toNat = c by simp, h]
theorem digI_none {c : UInt8} (h : digO c = none) : digI c.toNat = -1 := by unfold digI; rw [show UInt8.ofNat c.toNat = c by simp, h]
theorem dig_lt {c : UInt8} {d : Nat} (h : digO c = some d) : d < 16 := (dig_some h).1
set_option maxRecDepth 100000 in
set_option maxHeartbeats 8000000 in
theorem refUnhex_any (l : List UInt8) (w : World) (hl : l.length ≤ 100000) : Calls Tryz.prog 45 #[.string ⟨l.toArray⟩] w fun e w' => (∃ v, e = .returned (.tuple #[v, .bool (unhexN l).isSome]) ∧ OwnU w w' v ((unhexN l).getD [])) ∧ Below w.heap.size w w' := by
  obtain ⟨i0, hi0, hz0, hz1, hz2⟩ := info_parts info_u8
  have hsz : (⟨l.toArray⟩ : ByteArray).size = l.length := by show l.toArray.size = _; simp
  by_cases hbad : l.length < 2 ∨ ¬ (l.take 2 = [48, 120]) ∨ l.length % 2 = 1
  · have hn : unhexN l = none := by
      unfold unhexN
      split
      · rename_i r
        rcases hbad with h | h | h
        · simp at h; omega
        · exact absurd rfl h
        · exact unhexP_odd r (by simp at h; omega)
      · rfl
    rw [hn]
    have hnil : ∃ v, Ending.returned (.tuple #[Value.slice none 0 0, .bool false]) = .returned (.tuple #[v, .bool (none : Option (List Nat)).isSome]) ∧ OwnU w w v ((none : Option (List Nat)).getD []) := ⟨_, rfl, OwnU.nil w w⟩
    replace hnil := Lib.hid hnil
    by_cases h2 : l.length < 2
    · have h2I : (l.length : Int) < 2 := by omega
      clear hn hbad
      go_enter Tryz.func45, Tryz.ntmps45
      go_wp2
      go_ret2
      exact ⟨hnil.out, xrefl _⟩
    have h2I : ¬ (l.length : Int) < 2 := by omega
    have hsl := fun W => run_cut2 l W (by omega)
    by_cases h3 : l.take 2 = [48, 120]
    · have h3b : (l.take 2 == [48, 120]) = true := by rw [h3]; rfl
      have hodd : l.length % 2 = 1 := by
        rcases hbad with h | h | h
        · exact absurd h h2
        · exact absurd h3 h
        · exact h
      have htm : Int.tmod (l.length : Int) 2 = 1 := by rw [Int.tmod_eq_emod_of_nonneg (by omega)]; omega
      clear hn hbad h3 hodd
      generalize l.take 2 = l2 at *
      go_enter Tryz.func45, Tryz.ntmps45
      go_wp2
      go_ret2
      exact ⟨hnil.out, xrefl _⟩
    · have h3b : (l.take 2 == [48, 120]) = false := by simpa using h3
      clear hn hbad h3
      generalize l.take 2 = l2 at *
      go_enter Tryz.func45, Tryz.ntmps45
      go_wp2
      go_ret2
      exact ⟨hnil.out, xrefl _⟩
  · have h2I : ¬ (l.length : Int) < 2 := by omega
    have hsl := fun W => run_cut2 l W (by omega)
    have h3 : l.take 2 = [48, 120] := Classical.byContradiction fun h => hbad (.inr (.inl h))
    have hev : l.length % 2 = 0 := by omega
    have h3b : (l.take 2 == [48, 120]) = true := by rw [h3]; rfl
    have htm : Int.tmod (l.length : Int) 2 = 0 := by rw [Int.tmod_eq_emod_of_nonneg (by omega)]; omega
    have hU : unhexN l = unhexP (l.drop 2) := by
      have e : l = 48 :: 120 :: l.drop 2 := by
        have := List.take_append_drop 2 l
        rw [h3] at this
        exact this.symm
      rw [e]; rfl
    have hst0 : Hid (unhexP (l.drop 2) = (unhexP (l.drop 2)).map (([] : List Nat) ++ ·)) := Lib.hid (by cases unhexP (l.drop 2) <;> rfl)
    have hat := Lib.hid fun j h W => run_at_str l j h W
    have hdrop := Lib.hid fun k h => drop_two l k h
    rw [hU]
    have h00 := Lib.hid (OwnU.nil w w)
    replace hU := Lib.hid hU
    replace hev := Lib.hid hev
    have h22 : 2 ≤ l.length := by omega
    clear hbad h3
    generalize l.take 2 = l2 at *
    go_enter Tryz.func45, Tryz.ntmps45
    go_wp2
    go_loopw [4, 5] (fun v iv wx => ∃ (k : Nat) (bs : List Nat), iv = .int .i64 k ∧ 2 ≤ k ∧ k ≤ l.length ∧ k % 2 = 0 ∧ Hid (bs.length ≤ k) ∧ Hid (OwnU w wx v bs) ∧ Hid (unhexP (l.drop 2) = (unhexP (l.drop k)).map (bs ++ ·)) ∧ Hid (Below w.heap.size w wx)) (fun _ iv _ => l.length - (intOf iv).toNat)
    case atStart => exact ⟨2, [], rfl, by omega, h22, by omega, Lib.hid (by simp), h00, hst0, Lib.hid (xrefl w)⟩
    case round =>
      clear h00 hst0
      obtain ⟨k, bs, rfl, hk2, hkl, hke, hbl, hown, hst, hb⟩ := hrel
      by_cases hlt : k < l.length
      · have hlt1 : k + 1 < l.length := by have := hev.out; omega
        have hltI : (k : Int) < l.length := by omega
        have hcut := hdrop.out k hlt1
        have hs1 := hst.out
        rw [hcut] at hs1
        obtain ⟨hgo, hno⟩ := unhexP_step hs1
        have ha := fun W => hat.out k hlt W
        obtain ⟨k1, hk1⟩ : ∃ k1 : Nat, k1 = k + 1 := ⟨_, rfl⟩
        have hb1 : ∀ W, (Instr.index 9 (.string ⟨l.toArray⟩) (.int .i64 k1)).run Tryz.prog W = .ok (.int .u8 (l[k + 1].toNat : Nat)) W := fun W => by subst hk1; exact hat.out (k + 1) hlt1 W
        have hwk : IntKind.i64.wrap ((k : Int) + 1) = (k1 : Int) := by simp [IntKind.wrap, IntKind.bits, IntKind.signed]; omega
        clear hs1 hcut hk1
        have da : ∀ d, digO l[k] = some d → digI l[k].toNat = d := fun d h => digI_some h
        have db : ∀ d, digO l[k + 1] = some d → digI l[k + 1].toNat = d := fun d h => digI_some h
        have na : digO l[k] = none → digI l[k].toNat = -1 := fun h => digI_none h
        have nb : digO l[k + 1] = none → digI l[k + 1].toNat = -1 := fun h => digI_none h
        have la : l[k].toNat < 256 := UInt8.toNat_lt l[k]
        have lb : l[k + 1].toNat < 256 := UInt8.toNat_lt l[k + 1]
        generalize l[k] = ca at *
        generalize l[k + 1] = cb at *
        generalize ca.toNat = xa at *
        generalize cb.toNat = xb at *
        have hdg := Lib.hid fun (c : Nat) (hc : c < 256) W => refDigit_any c W hc
        replace hgo := Lib.hid hgo
        replace hno := Lib.hid hno
        cases hqa : digO ca with
        | none =>
          have ea := na hqa
          have hq := Lib.hid (hno.out (.inl hqa))
          go_wp2
          go_quiet (first | (go_at_call 64; refine Calls.quiet_of_same (hdg.out _ (by assumption) _)))
          go_wp2
          go_ret2
          rw [hq.out]
          exact ⟨⟨_, rfl, OwnU.nil _ _⟩, xtrans hb.out ⟨rfl, rfl, rfl, Nat.le_refl _, fun _ _ => rfl⟩⟩
        | some x =>
          have ea := da _ hqa
          cases hqb : digO cb with
          | none =>
            have eb := nb hqb
            have hx0 : ¬ (x : Int) < 0 := by omega
            have hq := Lib.hid (hno.out (.inr hqb))
            go_wp2
            go_quiet (first | (go_at_call 64; refine Calls.quiet_of_same (hdg.out _ (by assumption) _)))
            go_wp2
            go_ret2
            rw [hq.out]
            exact ⟨⟨_, rfl, OwnU.nil _ _⟩, xtrans hb.out ⟨rfl, rfl, rfl, Nat.le_refl _, fun _ _ => rfl⟩⟩
          | some y =>
            have eb := db _ hqb
            have hx16 := dig_lt hqa
            have hy16 := dig_lt hqb
            have hx0 : ¬ (x : Int) < 0 := by omega
            have hy0 : ¬ (y : Int) < 0 := by omega
            obtain ⟨z, hz⟩ : ∃ z : Nat, z = 16 * x + y := ⟨_, rfl⟩
            have hzI : 16 * (x : Int) + (y : Int) = (z : Int) := by omega
            have hz8 : IntKind.u8.wrap (z : Int) = (z : Int) := by simp [IntKind.wrap, IntKind.bits, IntKind.signed]; omega
            have hs2 := hgo.out x y hqa hqb
            rw [← hz] at hs2
            have hbl2 := hbl.out
            replace hs2 := Lib.hid hs2
            clear hz
            go_wp2
            go_quiet (first | (go_at_call 64; refine Calls.quiet_of_same (hdg.out _ (by assumption) _)))
            have hown9 : Hid (OwnU w (wr.drewN nq) u4 bs) := Lib.hid hown.out
            have hb9 : Hid (Below w.heap.size w (wr.drewN nq)) := Lib.hid (xtrans hb.out ⟨rfl, rfl, rfl, Nat.le_refl _, fun _ _ => rfl⟩)
            generalize wr.drewN nq = w9 at *
            have hsb : w.heap.size ≤ (w9.alloc (.cells #[.int .u8 (z : Int)] 5)).heap.size := by rw [World.size_alloc]; have := hb9.out.size; omega
            go_wp2_with (at_builtin; refine wpList_append_row (w9.alloc (.cells #[.int .u8 (z : Int)] 5)) rfl _ _ 32 rfl w.heap.size 5 i0 (.int .u8 0) 1 Tryz.underlying32 hi0 hz0 hz1 hz2 rfl _ bs.length _ rfl (hown9.out.alloc _) (some ⟨w9.heap.size, 0, none⟩) 1 .u8 [(z : Int)] rfl (by simp) (rowAt_one w9 5 (z : Int)) (by unfold maxLen; simp; omega) (by simp; omega) hsb ?_; intro v3 w3 ho3 hg3; have hb3 := Lib.hid ((xalloc hb9.out _).grown hg3 hsb (fun j hj => (hown9.out.lt j hj).1)); replace ho3 := Lib.hid ho3; clear hg3)
            refine ⟨⟨k + 2, bs ++ [z], by go_num, by omega, by omega, by omega, Lib.hid (by simp; omega), Lib.hid ?_, hs2, hb3⟩, by simp [intOf] <;> omega⟩
            unfold OwnU
            rw [List.length_append, natI_app, List.map_append]
            exact ho3.out
      · obtain rfl : k = l.length := by omega
        have hfin := hst.out
        rw [List.drop_length, unhexP] at hfin
        have hq : unhexP (l.drop 2) = some bs := by rw [hfin]; simp
        clear hfin hst
        replace hq := Lib.hid hq
        go_wp2
        go_ret2
        rw [hq.out]
        exact ⟨⟨_, rfl, hown.out⟩, hb.out⟩
end Go.Proofs.YtbicfaiabpcgfaaGreatDoor
