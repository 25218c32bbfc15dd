/- Texts of this claim, merged; no condition. -/
import Derived.Test.YtbicfaiabpcgfaaGreatDoorC08
set_option linter.all false
namespace Go.Proofs.YtbicfaiabpcgfaaGreatDoor
open Go.RowKit Go.Shelf

def txK (cs : List Nat) (k : Nat) : List UInt8 := Lib.join (((opsL cs).take k).flatMap (opW cs)) [32]
theorem join_app : ∀ (A B : List (List UInt8)) (s : List UInt8), A ≠ [] → B ≠ [] → Lib.join (A ++ B) s = Lib.join A s ++ s ++ Lib.join B s
  | [a], b :: B, s, _, _ => by rw [List.singleton_append, join_cons2]; simp [Lib.join]
  | a :: a2 :: A, B, s, _, hB => by
    rw [List.cons_append, List.cons_append, join_cons2, ← List.cons_append, join_app (a2 :: A) B s (by simp) hB, join_cons2]
    simp
  | [], _, _, h, _ => absurd rfl h
  | _ :: _, [], _, _, h => absurd rfl h
theorem txK_zero (cs : List Nat) : txK cs 0 = [] := rfl
theorem txK_step {cs : List Nat} {k : Nat} (h : k < (opsL cs).length) : txK cs (k + 1) = (if k = 0 then [] else txK cs k ++ [32]) ++ Lib.join (opW cs (opsL cs)[k]) [32] := by
  unfold txK
  rw [List.take_succ_eq_append_getElem h, List.flatMap_append, List.flatMap_singleton]
  by_cases hk : k = 0
  · subst hk; simp
  · rw [if_neg hk]
    refine join_app _ _ _ ?_ (opW_len cs _).2
    intro e
    have h0 : (opsL cs)[0]'(by omega) ∈ (opsL cs).take k := by
      rw [List.mem_take_iff_getElem]
      exact ⟨0, by omega, rfl⟩
    have hx := (opW_len cs ((opsL cs)[0]'(by omega))).2
    cases hq : opW cs ((opsL cs)[0]'(by omega)) with
    | nil => exact hx hq
    | cons y ys =>
      have : y ∈ ((opsL cs).take k).flatMap (opW cs) := List.mem_flatMap.2 ⟨_, h0, by rw [hq]; simp⟩
      rw [e] at this; cases this
theorem txK_all (cs : List Nat) : txK cs (opsL cs).length = textC cs := by unfold txK textC wordsN; rw [List.take_length]
theorem txK_len {cs : List Nat} (h : ∀ b ∈ cs, b < 256) (hl : cs.length ≤ 1000) (k : Nat) : (txK cs k).length ≤ 140000 := by
  unfold txK
  have h1 := join_len 66 [32] (((opsL cs).take k).flatMap (opW cs)) (fun w hw => by
    obtain ⟨i, _, hi⟩ := List.mem_flatMap.1 hw
    exact (opW_good h i w hi).2)
  have h2 : (((opsL cs).take k).flatMap (opW cs)).length ≤ 2 * ((opsL cs).take k).length := by
    generalize (opsL cs).take k = l
    induction l with
    | nil => simp
    | cons a l ih => rw [List.flatMap_cons, List.length_append, List.length_cons]; have := (opW_len cs a).1; omega
  have h3 : ((opsL cs).take k).length ≤ 1000 := by rw [List.length_take]; have := opsL_len cs; omega
  simp only [List.length_singleton] at h1
  omega
theorem opW_cases (cs : List Nat) (x : Nat) : (namedN (byN cs x) = false → Lib.join (opW cs x) [32] = hexN [byN cs x]) ∧
    (namedN (byN cs x) = true → 0 < szN (byN cs x) → Lib.join (opW cs x) [32] = (infoN (byN cs x)).name ++ [32] ++ hexN (restN cs x)) ∧
    (namedN (byN cs x) = true → ¬ 0 < szN (byN cs x) → Lib.join (opW cs x) [32] = (infoN (byN cs x)).name) := by
  refine ⟨fun h => ?_, fun h h2 => ?_, fun h h2 => ?_⟩
  · unfold opW; rw [if_neg (by rw [h]; decide)]; simp [Lib.join]
  · unfold opW; rw [if_pos h, if_pos h2, join_cons2]; simp [Lib.join]
  · unfold opW; rw [if_pos h, if_neg h2]; simp [Lib.join]
theorem hex_n (l : List Nat) (a : Option Addr) (c : Nat) (w : World) (hr : RowAt .u8 w a (natI l)) (h256 : ∀ x ∈ l, x < 256) (hl : l.length < 1000) :
    Calls Tryz.prog 46 #[.slice a l.length c] w fun e w' => e = .returned (.string ⟨(hexN l).toArray⟩) ∧ Below w.heap.size w w' := by
  have := hex_any (natI l) a c w hr (fun z hz => by obtain ⟨n, hn, rfl⟩ := List.mem_map.1 hz; have := h256 n hn; omega) (by rw [natI_len]; omega)
  rw [natI_len] at this
  exact this
theorem name_len (c : Nat) (h : c < 256) : (infoN c).name.length ≤ 14 := (name_chars c h).2
set_option maxRecDepth 100000 in
set_option maxHeartbeats 16000000 in
theorem refText_any (cs : List Nat) (a : Option Addr) (c0 : Nat) (w : World) (h : CodeAt w a c0 cs) :
    Calls Tryz.prog 18 #[.slice a cs.length c0] w fun e w' => e = .returned (.string ⟨(textC cs).toArray⟩) ∧ Below w.heap.size w w' := by
  have hol := opsL_len cs
  have hcl := h.len
  have hlen := Lib.hid fun k => txK_len h.ok hcl k
  have hops := Lib.hid (refOps_any cs a c0 w h)
  have hbk := Lib.hid fun (x : Nat) (hx : x < cs.length) W (hW : Below w.heap.size w W) => refBehind_any cs x a c0 W (h.below hW) hx
  replace h := Lib.hid h
  go_enter Tryz.func18, Tryz.ntmps18
  go_wp2_with (go_at_call 13; refine hops.out.mono ?_; rintro e w1 ⟨⟨v, rfl, hv⟩, hb1⟩; obtain ⟨a1, c1, rfl, hI1, -⟩ := hv.at; replace hI1 := Lib.hid hI1; clear hv hops; replace hb1 := Lib.hid hb1)
  have hr1 : Hid (Below w1.heap.size w1 w1) := Lib.hid (xrefl w1)
  go_loopw [3, 5] (fun sv iv wx => ∃ (k : Nat) (T : List UInt8), sv = .string ⟨T.toArray⟩ ∧ iv = .int .i64 k ∧ k ≤ (opsL cs).length ∧ Hid (T = txK cs k) ∧ Hid (Below w1.heap.size w1 wx)) (fun _ iv _ => (opsL cs).length - (intOf iv).toNat)
  case atStart => exact ⟨0, [], rfl, rfl, by omega, Lib.hid (txK_zero cs).symm, hr1⟩
  case round =>
    clear hr1
    obtain ⟨k, T, rfl, rfl, hk, hT, hbb⟩ := hrel
    by_cases hlt : k < (opsL cs).length
    · have hltI : (k : Int) < (opsL cs).length := by omega
      obtain ⟨b1, o1, rfl, -⟩ := hI1.out.get hlt
      have hcell1 : Hid (∀ W, Below w1.heap.size w1 W → W.cell? ⟨b1, o1 + k, none⟩ = some (.int .i64 ((opsL cs)[k] : Int))) := Lib.hid fun W hW => by
        obtain ⟨b', o', e, hc⟩ := (hI1.out.below hW).get hlt
        cases e; exact hc
      have hx : (opsL cs)[k] < cs.length := opsL_lt (List.getElem_mem hlt)
      obtain ⟨b, o, rfl, -, h256⟩ := h.out.get hx
      have hcell : Hid (∀ W, Below w1.heap.size w1 W → W.cell? ⟨b, o + (opsL cs)[k], none⟩ = some (.int .u8 (byN cs (opsL cs)[k]))) := Lib.hid fun W hW => by
        obtain ⟨b', o', e, hc, -⟩ := ((h.out.below hb1.out).below hW).get hx
        cases e; exact hc
      have hstep := Lib.hid (txK_step hlt)
      have hopw := Lib.hid (opW_cases cs (opsL cs)[k])
      have hbeh := Lib.hid fun W (hW : Below w1.heap.size w1 W) => hbk.out (opsL cs)[k] hx W (xtrans hb1.out hW)
      have hrl : (restN cs (opsL cs)[k]).length ≤ 32 := by have := szN_le (byN cs (opsL cs)[k]); simp [restN]; omega
      have hrok : ∀ x ∈ restN cs (opsL cs)[k], x < 256 := fun x hx => by
        unfold restN at hx
        obtain ⟨j, _, rfl⟩ := List.mem_map.1 hx
        exact byN_lt h.out.ok _
      have hhex2 := Lib.hid fun (yb yn : Nat) W (hr : RowAt .u8 W (some ⟨yb, 0, none⟩) (natI (restN cs (opsL cs)[k]))) => hex_n (restN cs (opsL cs)[k]) (some ⟨yb, 0, none⟩) yn W hr hrok (by omega)
      have hH2l : (hexN (restN cs (opsL cs)[k])).length ≤ 70 := by rw [hexN_len]; omega
      have hxI : ((opsL cs)[k] : Int) < cs.length := by omega
      have hTl := hlen.out k
      rw [← hT.out] at hTl
      have hTk := Lib.hid fun (h : k = 0) => (show T = [] from by rw [hT.out, h]; exact txK_zero cs)
      rw [← hT.out] at hstep
      have c1' := hcell1.out wr hbb.out
      have c2' := hcell.out wr hbb.out
      generalize hexN (restN cs (opsL cs)[k]) = H2 at *
      generalize restN cs (opsL cs)[k] = R at *
      generalize (opsL cs)[k] = x at *
      have hhex1 := Lib.hid fun (q : Nat) W (hr : RowAt .u8 W (some ⟨q, 0, none⟩) [(byN cs x : Int)]) => hex_n [byN cs x] (some ⟨q, 0, none⟩) 1 W hr (fun y hy => by simp at hy; subst hy; exact h256) (by simp)
      have hH1l : (hexN [byN cs x]).length ≤ 70 := by rw [hexN_len]; simp
      generalize hexN [byN cs x] = H1 at *
      have hI := Lib.hid fun W => refInfo_any (byN cs x) W h256
      have hnm := info_named (byN cs x) h256
      have hnml := Lib.hid (name_len (byN cs x) h256)
      have hszz := info_size (byN cs x) h256
      rw [← hszz] at hopw
      clear hszz
      generalize byN cs x = c at *
      generalize namedN c = nb at *
      generalize infoN c = X at *
      obtain ⟨nm, iN, oN, gN, qN, zN⟩ := X
      simp only at hopw hnm hnml
      by_cases hk0 : k = 0
      · have hT0 := hTk.out hk0
        have hk0I : ¬ (0 : Int) < (k : Int) := by omega
        have hstep1 := hstep.out
        rw [if_pos hk0] at hstep1
        obtain ⟨T0, hT00⟩ : ∃ T0 : List UInt8, T0 = T := ⟨_, rfl⟩
        replace hstep : Hid (txK cs (k + 1) = T0 ++ Lib.join (opW cs x) [32]) := Lib.hid (by rw [hstep1, hT00, hT0])
        clear hstep1
        rw [← hT00]
        have hT0l : T0.length ≤ 150000 := by rw [hT00]; omega
        clear hT00 hT0 hTk hT
        replace hk0 := Lib.hid hk0
        cases hnb : nb with
        | false =>
          have hnil : nm = [] := by cases nm with
            | nil => rfl
            | cons _ _ => rw [hnb] at hnm; simp at hnm
          subst hnil
          obtain ⟨T1, hT1⟩ : ∃ T1, T1 = T0 ++ H1 := ⟨_, rfl⟩
          have e1 : (⟨T0.toArray⟩ : ByteArray) ++ ⟨H1.toArray⟩ = ⟨T1.toArray⟩ := by rw [hT1]; exact str_add T0 H1
          have hfin : Hid (T1 = txK cs (k + 1)) := Lib.hid (by rw [hT1, hstep.out, (hopw.out).1 hnb])
          clear hT1
          go_wp2_with (first
            | (go_at_call 10; refine (hI.out _).mono ?_; rintro e w4 ⟨rfl, hb4⟩; have hq4 := Lib.hid (xtrans hbb.out hb4); clear hb4)
            | (refine wpList_store_blkG rfl 25 _ _ rfl w4.heap.size rfl 25 noV (infL ⟨[], iN, oN, gN, qN, zN⟩) (BlkG.new w4 _ _) rfl rfl (by kernel_rfl) rfl ?_; intro w5 hX5 ho5; have hb5 := ho5.below (xalloc (xrefl w4) _) (by rw [World.size_alloc]; omega) (by rintro k rfl; exact Nat.le_refl _); have hn5 := hX5.cell 0 (by show 0 < 6; omega); have hz5 := hX5.cell 5 (by show 5 < 6; omega); simp only [infL, List.getElem_cons_zero, List.getElem_cons_succ] at hn5 hz5; replace hb5 := Lib.hid (xtrans hq4.out hb5); have hd5 := hcell1.out w5 hb5.out; have hy5 := hcell.out w5 hb5.out; clear ho5 hX5)
            | (go_at_call 46; refine (hhex1.out _ _ (rowAt_one w5 5 (c : Int))).mono ?_; rintro e w6 ⟨rfl, hb6⟩; replace hb6 := Lib.hid (xtrans (xalloc hb5.out _) hb6)))
          exact ⟨⟨k + 1, T1, rfl, by go_num, by omega, Lib.hid (hfin.out), hb6⟩, by simp [intOf] <;> omega⟩
        | true =>
          have hne : nm.isEmpty = false := by cases nm with
            | nil => rw [hnb] at hnm; simp at hnm
            | cons _ _ => rfl
          have hnl := hnml.out
          obtain ⟨T1, hT1⟩ : ∃ T1, T1 = T0 ++ nm := ⟨_, rfl⟩
          have e1 : (⟨T0.toArray⟩ : ByteArray) ++ ⟨nm.toArray⟩ = ⟨T1.toArray⟩ := by rw [hT1]; exact str_add T0 nm
          have hT1l : T1.length ≤ 150100 := by rw [hT1]; simp; omega
          by_cases hz0 : 0 < zN
          · have hz0I : (0 : Int) < (zN : Int) := by omega
            obtain ⟨T2, hT2⟩ : ∃ T2, T2 = T1 ++ [32] := ⟨_, rfl⟩
            have e2 : (⟨T1.toArray⟩ : ByteArray) ++ ⟨#[32]⟩ = ⟨T2.toArray⟩ := by rw [hT2]; exact str_add T1 [32]
            have hT2l : T2.length ≤ 150200 := by rw [hT2]; simp; omega
            obtain ⟨T3, hT3⟩ : ∃ T3, T3 = T2 ++ H2 := ⟨_, rfl⟩
            have e3 : (⟨T2.toArray⟩ : ByteArray) ++ ⟨H2.toArray⟩ = ⟨T3.toArray⟩ := by rw [hT3]; exact str_add T2 H2
            have hfin : Hid (T3 = txK cs (k + 1)) := Lib.hid (by rw [hT3, hT2, hT1, hstep.out, (hopw.out).2.1 hnb hz0]; simp)
            clear hT1 hT2 hT3
            go_wp2_with (first
              | (go_at_call 10; refine (hI.out _).mono ?_; rintro e w4 ⟨rfl, hb4⟩; have hq4 := Lib.hid (xtrans hbb.out hb4); clear hb4)
              | (refine wpList_store_blkG rfl 25 _ _ rfl w4.heap.size rfl 25 noV (infL ⟨nm, iN, oN, gN, qN, zN⟩) (BlkG.new w4 _ _) rfl rfl (by kernel_rfl) rfl ?_; intro w5 hX5 ho5; have hb5 := ho5.below (xalloc (xrefl w4) _) (by rw [World.size_alloc]; omega) (by rintro k rfl; exact Nat.le_refl _); have hn5 := hX5.cell 0 (by show 0 < 6; omega); have hz5 := hX5.cell 5 (by show 5 < 6; omega); simp only [infL, List.getElem_cons_zero, List.getElem_cons_succ] at hn5 hz5; replace hb5 := Lib.hid (xtrans hq4.out hb5); have hd5 := hcell1.out w5 hb5.out; have hy5 := hcell.out w5 hb5.out; clear ho5 hX5)
              | (go_at_call 47; refine (hbeh.out _ hb5.out).mono ?_; rintro e w6 ⟨⟨yb, yn, rfl, hr6⟩, hb6⟩; replace hb6 := Lib.hid (xtrans hb5.out hb6); have hh2 := Lib.hid (hhex2.out yb yn w6 hr6); clear hr6)
              | (go_at_call 46; refine hh2.out.mono ?_; rintro e w7 ⟨rfl, hb7⟩; replace hb7 := Lib.hid (xtrans hb6.out hb7)))
            exact ⟨⟨k + 1, T3, rfl, by go_num, by omega, Lib.hid (hfin.out), hb7⟩, by simp [intOf] <;> omega⟩
          · have hz0I : ¬ (0 : Int) < (zN : Int) := by omega
            have hfin : Hid (T1 = txK cs (k + 1)) := Lib.hid (by rw [hT1, hstep.out, (hopw.out).2.2 hnb hz0])
            clear hT1
            go_wp2_with (first
              | (go_at_call 10; refine (hI.out _).mono ?_; rintro e w4 ⟨rfl, hb4⟩; have hq4 := Lib.hid (xtrans hbb.out hb4); clear hb4)
              | (refine wpList_store_blkG rfl 25 _ _ rfl w4.heap.size rfl 25 noV (infL ⟨nm, iN, oN, gN, qN, zN⟩) (BlkG.new w4 _ _) rfl rfl (by kernel_rfl) rfl ?_; intro w5 hX5 ho5; have hb5 := ho5.below (xalloc (xrefl w4) _) (by rw [World.size_alloc]; omega) (by rintro k rfl; exact Nat.le_refl _); have hn5 := hX5.cell 0 (by show 0 < 6; omega); have hz5 := hX5.cell 5 (by show 5 < 6; omega); simp only [infL, List.getElem_cons_zero, List.getElem_cons_succ] at hn5 hz5; replace hb5 := Lib.hid (xtrans hq4.out hb5); have hd5 := hcell1.out w5 hb5.out; have hy5 := hcell.out w5 hb5.out; clear ho5 hX5))
            exact ⟨⟨k + 1, T1, rfl, by go_num, by omega, Lib.hid (hfin.out), hb5⟩, by simp [intOf] <;> omega⟩
      · have hk0I : (0 : Int) < (k : Int) := by omega
        rw [if_neg hk0] at hstep
        obtain ⟨T0, hT00⟩ : ∃ T0, T0 = T ++ [32] := ⟨_, rfl⟩
        have e0 : (⟨T.toArray⟩ : ByteArray) ++ ⟨#[32]⟩ = ⟨T0.toArray⟩ := by rw [hT00]; exact str_add T [32]
        have hT0l : T0.length ≤ 150000 := by rw [hT00]; simp; omega
        rw [← hT00] at hstep
        clear hT00 hTk hT
        cases hnb : nb with
        | false =>
          have hnil : nm = [] := by cases nm with
            | nil => rfl
            | cons _ _ => rw [hnb] at hnm; simp at hnm
          subst hnil
          obtain ⟨T1, hT1⟩ : ∃ T1, T1 = T0 ++ H1 := ⟨_, rfl⟩
          have e1 : (⟨T0.toArray⟩ : ByteArray) ++ ⟨H1.toArray⟩ = ⟨T1.toArray⟩ := by rw [hT1]; exact str_add T0 H1
          have hfin : Hid (T1 = txK cs (k + 1)) := Lib.hid (by rw [hT1, hstep.out, (hopw.out).1 hnb])
          clear hT1
          go_wp2_with (first
            | (go_at_call 10; refine (hI.out _).mono ?_; rintro e w4 ⟨rfl, hb4⟩; have hq4 := Lib.hid (xtrans hbb.out hb4); clear hb4)
            | (refine wpList_store_blkG rfl 25 _ _ rfl w4.heap.size rfl 25 noV (infL ⟨[], iN, oN, gN, qN, zN⟩) (BlkG.new w4 _ _) rfl rfl (by kernel_rfl) rfl ?_; intro w5 hX5 ho5; have hb5 := ho5.below (xalloc (xrefl w4) _) (by rw [World.size_alloc]; omega) (by rintro k rfl; exact Nat.le_refl _); have hn5 := hX5.cell 0 (by show 0 < 6; omega); have hz5 := hX5.cell 5 (by show 5 < 6; omega); simp only [infL, List.getElem_cons_zero, List.getElem_cons_succ] at hn5 hz5; replace hb5 := Lib.hid (xtrans hq4.out hb5); have hd5 := hcell1.out w5 hb5.out; have hy5 := hcell.out w5 hb5.out; clear ho5 hX5)
            | (go_at_call 46; refine (hhex1.out _ _ (rowAt_one w5 5 (c : Int))).mono ?_; rintro e w6 ⟨rfl, hb6⟩; replace hb6 := Lib.hid (xtrans (xalloc hb5.out _) hb6)))
          exact ⟨⟨k + 1, T1, rfl, by go_num, by omega, Lib.hid (hfin.out), hb6⟩, by simp [intOf] <;> omega⟩
        | true =>
          have hne : nm.isEmpty = false := by cases nm with
            | nil => rw [hnb] at hnm; simp at hnm
            | cons _ _ => rfl
          have hnl := hnml.out
          obtain ⟨T1, hT1⟩ : ∃ T1, T1 = T0 ++ nm := ⟨_, rfl⟩
          have e1 : (⟨T0.toArray⟩ : ByteArray) ++ ⟨nm.toArray⟩ = ⟨T1.toArray⟩ := by rw [hT1]; exact str_add T0 nm
          have hT1l : T1.length ≤ 150100 := by rw [hT1]; simp; omega
          by_cases hz0 : 0 < zN
          · have hz0I : (0 : Int) < (zN : Int) := by omega
            obtain ⟨T2, hT2⟩ : ∃ T2, T2 = T1 ++ [32] := ⟨_, rfl⟩
            have e2 : (⟨T1.toArray⟩ : ByteArray) ++ ⟨#[32]⟩ = ⟨T2.toArray⟩ := by rw [hT2]; exact str_add T1 [32]
            have hT2l : T2.length ≤ 150200 := by rw [hT2]; simp; omega
            obtain ⟨T3, hT3⟩ : ∃ T3, T3 = T2 ++ H2 := ⟨_, rfl⟩
            have e3 : (⟨T2.toArray⟩ : ByteArray) ++ ⟨H2.toArray⟩ = ⟨T3.toArray⟩ := by rw [hT3]; exact str_add T2 H2
            have hfin : Hid (T3 = txK cs (k + 1)) := Lib.hid (by rw [hT3, hT2, hT1, hstep.out, (hopw.out).2.1 hnb hz0]; simp)
            clear hT1 hT2 hT3
            go_wp2_with (first
              | (go_at_call 10; refine (hI.out _).mono ?_; rintro e w4 ⟨rfl, hb4⟩; have hq4 := Lib.hid (xtrans hbb.out hb4); clear hb4)
              | (refine wpList_store_blkG rfl 25 _ _ rfl w4.heap.size rfl 25 noV (infL ⟨nm, iN, oN, gN, qN, zN⟩) (BlkG.new w4 _ _) rfl rfl (by kernel_rfl) rfl ?_; intro w5 hX5 ho5; have hb5 := ho5.below (xalloc (xrefl w4) _) (by rw [World.size_alloc]; omega) (by rintro k rfl; exact Nat.le_refl _); have hn5 := hX5.cell 0 (by show 0 < 6; omega); have hz5 := hX5.cell 5 (by show 5 < 6; omega); simp only [infL, List.getElem_cons_zero, List.getElem_cons_succ] at hn5 hz5; replace hb5 := Lib.hid (xtrans hq4.out hb5); have hd5 := hcell1.out w5 hb5.out; have hy5 := hcell.out w5 hb5.out; clear ho5 hX5)
              | (go_at_call 47; refine (hbeh.out _ hb5.out).mono ?_; rintro e w6 ⟨⟨yb, yn, rfl, hr6⟩, hb6⟩; replace hb6 := Lib.hid (xtrans hb5.out hb6); have hh2 := Lib.hid (hhex2.out yb yn w6 hr6); clear hr6)
              | (go_at_call 46; refine hh2.out.mono ?_; rintro e w7 ⟨rfl, hb7⟩; replace hb7 := Lib.hid (xtrans hb6.out hb7)))
            exact ⟨⟨k + 1, T3, rfl, by go_num, by omega, Lib.hid (hfin.out), hb7⟩, by simp [intOf] <;> omega⟩
          · have hz0I : ¬ (0 : Int) < (zN : Int) := by omega
            have hfin : Hid (T1 = txK cs (k + 1)) := Lib.hid (by rw [hT1, hstep.out, (hopw.out).2.2 hnb hz0])
            clear hT1
            go_wp2_with (first
              | (go_at_call 10; refine (hI.out _).mono ?_; rintro e w4 ⟨rfl, hb4⟩; have hq4 := Lib.hid (xtrans hbb.out hb4); clear hb4)
              | (refine wpList_store_blkG rfl 25 _ _ rfl w4.heap.size rfl 25 noV (infL ⟨nm, iN, oN, gN, qN, zN⟩) (BlkG.new w4 _ _) rfl rfl (by kernel_rfl) rfl ?_; intro w5 hX5 ho5; have hb5 := ho5.below (xalloc (xrefl w4) _) (by rw [World.size_alloc]; omega) (by rintro k rfl; exact Nat.le_refl _); have hn5 := hX5.cell 0 (by show 0 < 6; omega); have hz5 := hX5.cell 5 (by show 5 < 6; omega); simp only [infL, List.getElem_cons_zero, List.getElem_cons_succ] at hn5 hz5; replace hb5 := Lib.hid (xtrans hq4.out hb5); have hd5 := hcell1.out w5 hb5.out; have hy5 := hcell.out w5 hb5.out; clear ho5 hX5))
            exact ⟨⟨k + 1, T1, rfl, by go_num, by omega, Lib.hid (hfin.out), hb5⟩, by simp [intOf] <;> omega⟩
    · obtain rfl : k = (opsL cs).length := by omega
      have hq : T = textC cs := hT.out.trans (txK_all cs)
      clear hT
      replace hq := Lib.hid hq
      go_wp2
      go_ret
      rw [hq.out]
      exact ⟨rfl, xtrans hb1.out hbb.out⟩
end Go.Proofs.YtbicfaiabpcgfaaGreatDoor
