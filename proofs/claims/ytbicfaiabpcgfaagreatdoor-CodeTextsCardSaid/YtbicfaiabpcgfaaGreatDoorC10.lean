/- Texts of this claim, merged; no condition. -/
import Derived.Test.YtbicfaiabpcgfaaGreatDoorC09
import Derived.Test.YtbicfaiabpcgfaaGreatDoorC07
import Derived.Test.YtbicfaiabpcgfaaGreatDoorC03
import Derived.Deep.QuietTactic
import Derived.BigQuiet
import Derived.Test.YtbicfaiabpcgfaaGreatDoorC08
set_option linter.all false
namespace Go.Proofs.YtbicfaiabpcgfaaGreatDoor
open Go.RowKit Go.Shelf

theorem pw_one {P : Option (List Nat)} {bs r w op} (h : P = (parseW (w :: r)).map (bs ++ ·)) (hn : namedO w = some op) (hz : szN op = 0) : P = (parseW r).map (bs ++ [op] ++ ·) := by
  rw [h, parseW, hn]
  dsimp only
  rw [if_pos hz]
  cases parseW r <;> simp
theorem pw_end {P : Option (List Nat)} {bs w op} (h : P = (parseW [w]).map (bs ++ ·)) (hn : namedO w = some op) (hz : ¬ szN op = 0) : P = none := by
  rw [h, parseW, hn]
  dsimp only
  rw [if_neg hz]; rfl
theorem pw_two {P : Option (List Nat)} {bs r w x op} (h : P = (parseW (w :: x :: r)).map (bs ++ ·)) (hn : namedO w = some op) (hz : ¬ szN op = 0) :
    (unhexN x = none → P = none) ∧ ∀ us, unhexN x = some us → (us.length ≠ szN op → P = none) ∧ (us.length = szN op → P = (parseW r).map (bs ++ [op] ++ us ++ ·)) := by
  rw [parseW, hn] at h
  dsimp only at h
  rw [if_neg hz] at h
  refine ⟨fun e => by rw [h, e]; rfl, fun us e => ⟨fun hl => by rw [h, e]; dsimp only; rw [if_neg hl]; rfl, fun hl => ?_⟩⟩
  rw [h, e]; dsimp only; rw [if_pos hl]
  cases parseW r <;> simp
theorem pw_hex {P : Option (List Nat)} {bs r w} (h : P = (parseW (w :: r)).map (bs ++ ·)) (hn : namedO w = none) :
    (unhexN w = none → P = none) ∧ ∀ us, unhexN w = some us → (us.length ≠ 1 → P = none) ∧ ∀ b, us = [b] → (namedN b = true → P = none) ∧ (namedN b = false → P = (parseW r).map (bs ++ [b] ++ ·)) := by
  rw [parseW.eq_def] at h
  dsimp only at h
  rw [hn] at h
  dsimp only at h
  refine ⟨fun e => by rw [h, e]; rfl, fun us e => ⟨fun hl => ?_, fun b hb => ?_⟩⟩
  · rw [h, e]
    match us, hl with
    | [], _ => rfl
    | [x], hl => exact absurd rfl hl
    | _ :: _ :: _, _ => rfl
  · subst hb
    rw [e] at h
    dsimp only at h
    refine ⟨fun hb => by rw [h, if_pos hb]; rfl, fun hb => ?_⟩
    rw [h, if_neg (by rw [hb]; decide)]
    cases parseW r <;> simp
theorem spl_size (c : UInt8) : ∀ l, (splS c l).length ≤ l.length + 1 ∧ ∀ w ∈ splS c l, w.length ≤ l.length
  | [] => by simp [splS]
  | x :: l => by
    obtain ⟨h1, h2⟩ := spl_size c l
    unfold splS
    split
    · refine ⟨by simp; omega, fun w hw => ?_⟩
      rcases List.mem_cons.1 hw with rfl | hw
      · simp
      · have := h2 w hw; simp; omega
    · cases hq : splS c l with
      | nil => exact absurd hq (spl_ne c l)
      | cons w r =>
        rw [hq] at h1 h2
        refine ⟨by simp at h1 ⊢; omega, fun u hu => ?_⟩
        dsimp only at hu
        rcases List.mem_cons.1 hu with rfl | hu
        · have := h2 w (by simp); simp; omega
        · have := h2 u (by simp [hu]); simp; omega
@[go_sem high] theorem field_nm0 (v0 v1 v2 v3 v4 v5 : Value) (w : World) : (Instr.field 25 (.agg #[v0, v1, v2, v3, v4, v5]) 0).run Tryz.prog w = .ok v0 w := by kernel_rfl
def parseNo (s : List UInt8) : Nat := if 65536 < s.length then 3 else match parseC s with
  | none => 200
  | some _ => 0
def parseL (s : List UInt8) : List Nat := if 65536 < s.length then [] else (parseC s).getD []
theorem own_lo {w w1 w2 : World} {v : Value} {bs : List Nat} (h : OwnU w1 w2 v bs) (hb : w.heap.size ≤ w1.heap.size) : OwnU w w2 v bs := by
  refine ⟨h.1, ?_⟩
  rcases h.2 with h0 | ⟨g, cap, cur, e, hg, r⟩
  · exact .inl h0
  · exact .inr ⟨g, cap, cur, e, by omega, r⟩
theorem OwnU.at {w w' : World} {v : Value} {l : List Nat} (h : OwnU w w' v l) : ∃ a c, v = .slice a l.length c ∧ RowAt .u8 w' a (natI l) ∧ (a = none → c = 0) := by
  obtain ⟨a, c, e, hr, hn, -, -⟩ := rowAt_own h
  rw [natI_len] at e
  exact ⟨a, c, e, hr, hn⟩
theorem unhexN_len {s : List UInt8} {l : List Nat} (h : unhexN s = some l) : 2 * l.length + 2 = s.length := by rw [← (unhexN_some h).1, hexN_len]; omega
set_option maxRecDepth 100000 in
set_option maxHeartbeats 16000000 in
theorem refParse_any (s : List UInt8) (w : World) (hl : s.length ≤ 4194304) : Calls Tryz.prog 17 #[.string ⟨s.toArray⟩] w fun e w' => (∃ v, e = .returned (.tuple #[v, .int .i64 (parseNo s : Nat)]) ∧ OwnU w w' v (parseL s)) ∧ Below w.heap.size w w' := by
  obtain ⟨i0, hi0, hz0, hz1, hz2⟩ := info_parts info_u8
  have hsz : (⟨s.toArray⟩ : ByteArray).size = s.length := by show s.toArray.size = _; simp
  by_cases hlong : 65536 < s.length
  · have hlI : (65536 : Int) < s.length := by omega
    have hq : Hid (parseNo s = 3 ∧ parseL s = []) := Lib.hid ⟨by unfold parseNo; rw [if_pos hlong], by unfold parseL; rw [if_pos hlong]⟩
    go_enter Tryz.func17, Tryz.ntmps17
    go_wp2
    go_ret2
    rw [hq.out.1, hq.out.2]
    exact ⟨⟨_, rfl, OwnU.nil _ _⟩, xrefl w⟩
  have hlI : ¬ (65536 : Int) < s.length := by omega
  by_cases hs0 : s = []
  · subst hs0
    have hq : Hid (parseNo [] = 0 ∧ parseL [] = []) := Lib.hid ⟨rfl, rfl⟩
    go_enter Tryz.func17, Tryz.ntmps17
    go_wp2
    go_ret2
    rw [hq.out.1, hq.out.2]
    exact ⟨⟨_, rfl, OwnU.nil _ _⟩, xrefl w⟩
  have hse : s.isEmpty = false := by cases s with
    | nil => exact absurd rfl hs0
    | cons _ _ => rfl
  obtain ⟨ws, hws⟩ : ∃ ws, ws = splS 32 s := ⟨_, rfl⟩
  have hsp := Lib.hid (refSplit_any 32 s w (by omega))
  rw [← hws] at hsp
  have hC : parseC s = parseW ws := by unfold parseC; rw [if_neg hs0, hws]
  have hbad : Hid (parseW ws = none → parseNo s = 200 ∧ parseL s = []) := Lib.hid fun e => ⟨by unfold parseNo; rw [if_neg hlong, hC, e], by unfold parseL; rw [if_neg hlong, hC, e]; rfl⟩
  have hgood : Hid (∀ l, parseW ws = some l → parseNo s = 0 ∧ parseL s = l) := Lib.hid fun l e => ⟨by unfold parseNo; rw [if_neg hlong, hC, e], by unfold parseL; rw [if_neg hlong, hC, e]; rfl⟩
  have hwl : ws.length ≤ 65537 := by have := (spl_size 32 s).1; rw [hws]; omega
  have hww : Hid (∀ x ∈ ws, x.length ≤ 100000) := Lib.hid fun x hx => by have := (spl_size 32 s).2 x (by rw [← hws]; exact hx); omega
  have hst0 : Hid (parseW ws = (parseW (ws.drop 0)).map ([] ++ ·)) := Lib.hid (by rw [List.drop_zero]; cases parseW ws <;> simp)
  generalize parseNo s = pn at *
  generalize parseL s = pl at *
  clear hC hws
  generalize hP : parseW ws = P at *
  clear hP
  go_enter Tryz.func17, Tryz.ntmps17
  go_wp2_with (go_at_call 44; refine hsp.out.mono ?_; rintro e w1 ⟨⟨v, rfl, hv⟩, hb1⟩; obtain ⟨a1, c1, rfl, hr1, -, hx1, -⟩ := rowV_own hv; have hS : Hid (∀ W, Below w1.heap.size w1 W → RowV W a1 (ws.map sV)) := Lib.hid fun W hW => hr1.below hW; clear hr1 hv hsp; replace hb1 := Lib.hid hb1)
  have hr1 : Hid (Below w1.heap.size w1 w1) := Lib.hid (xrefl w1)
  have ho1 : Hid (OwnU w1 w1 (.slice none 0 0) []) := Lib.hid (OwnU.nil _ _)
  go_loopw [5, 6] (fun v iv wx => ∃ (k : Nat) (bs : List Nat), iv = .int .i64 k ∧ k ≤ ws.length ∧ bs.length ≤ 40 * k ∧ Hid (OwnU w1 wx v bs) ∧ Hid (P = (parseW (ws.drop k)).map (bs ++ ·)) ∧ Hid (Below w1.heap.size w1 wx)) (fun _ iv _ => ws.length - (intOf iv).toNat)
  case atStart => exact ⟨0, [], rfl, by omega, by simp, ho1, hst0, hr1⟩
  case round =>
    clear hr1 ho1 hst0
    obtain ⟨k, bs, rfl, hk, hbl, hown, hst, hb⟩ := hrel
    by_cases hlt : k < ws.length
    · have hltI : (k : Int) < ws.length := by omega
      obtain ⟨b1, o1, rfl, -⟩ := (hS.out w1 (xrefl w1)) k (by rw [List.length_map]; exact hlt)
      have hcell : Hid (∀ W, Below w1.heap.size w1 W → W.cell? ⟨b1, o1 + k, none⟩ = some (.string ⟨ws[k].toArray⟩)) := Lib.hid fun W hW => by
        obtain ⟨b', o', e, hc⟩ := (hS.out W hW) k (by rw [List.length_map]; exact hlt)
        cases e
        rw [hc, List.getElem_map]; rfl
      have hs1 := hst.out
      rw [List.drop_eq_getElem_cons hlt] at hs1
      replace hs1 := Lib.hid hs1
      clear hst
      have hc1 := hcell.out wr hb.out
      have hxl := hww.out _ (List.getElem_mem hlt)
      have hN := Lib.hid fun W => refNamed_any ws[k] W
      have hU := Lib.hid fun W => refUnhex_any ws[k] W hxl
      generalize ws[k] = x at *
      cases hop : namedO x with
      | none =>
        rw [hop] at hN
        simp only [Option.getD_none, Option.isSome_none] at hN
        have hpw := Lib.hid (pw_hex hs1.out hop)
        cases hus : unhexN x with
        | none =>
          rw [hus] at hU
          simp only [Option.getD_none, Option.isSome_none] at hU
          have hq := Lib.hid (hbad.out (hpw.out.1 hus))
          go_wp2_with (first | (go_at_call 12; refine (hN.out _).mono ?_; rintro e w3 ⟨rfl, hb3⟩; have ho3 : Hid (OwnU w1 w3 u5 bs) := Lib.hid (own_keep hown.out hb3); replace hb3 := Lib.hid (xtrans hb.out hb3); have hd3 := hcell.out w3 hb3.out) | (go_at_call 45; refine (hU.out _).mono ?_; rintro e w4 ⟨⟨v4, rfl, hv4⟩, hb4⟩; have ho4 : Hid (OwnU w1 w4 u5 bs) := Lib.hid (own_keep ho3.out hb4); obtain ⟨a4, c4, rfl, hr4, hn4⟩ := hv4.at; replace hb4 := Lib.hid (xtrans hb3.out hb4); clear hv4))
          go_ret2
          rw [hq.out.1, hq.out.2]
          exact ⟨⟨_, rfl, OwnU.nil _ _⟩, xtrans hb1.out hb4.out⟩
        | some us =>
          rw [hus] at hU
          simp only [Option.getD_some, Option.isSome_some] at hU
          have hpw2 := hpw.out.2 us hus
          have h256 := (unhexN_some hus).2
          by_cases hu1 : us.length = 1
          · obtain ⟨b, rfl⟩ : ∃ b, us = [b] := by
              match us, hu1 with
              | [b], _ => exact ⟨b, rfl⟩
            obtain ⟨hpn, hpg⟩ := hpw2.2 b rfl
            have hb256 := h256 b (by simp)
            have hI : Hid (∀ W, Calls Tryz.prog 10 #[.int .u8 b] W fun e w' => e = .returned (infoV (infoN b)) ∧ Below W.heap.size W w') := Lib.hid fun W => refInfo_any b W hb256
            clear hpw2 hpw h256 hu1
            have hnm := info_named b hb256
            generalize infoN b = X at *
            obtain ⟨nm, iN, oN, gN, qN, zN⟩ := X
            unfold infoV at hI
            simp only at hnm hI
            cases hnb : namedN b with
            | true =>
              have hq := Lib.hid (hbad.out (hpn hnb))
              have hne : nm.isEmpty = false := by cases nm with
                | nil => rw [hnb] at hnm; simp at hnm
                | cons _ _ => rfl
              clear hnm hpn hpg
              go_wp2_with (first | (go_at_call 12; refine (hN.out _).mono ?_; rintro e w3 ⟨rfl, hb3⟩; have ho3 : Hid (OwnU w1 w3 u5 bs) := Lib.hid (own_keep hown.out hb3); replace hb3 := Lib.hid (xtrans hb.out hb3); have hd3 := hcell.out w3 hb3.out) | (go_at_call 45; refine (hU.out _).mono ?_; rintro e w4 ⟨⟨v4, rfl, hv4⟩, hb4⟩; have ho4 : Hid (OwnU w1 w4 u5 bs) := Lib.hid (own_keep ho3.out hb4); obtain ⟨a4, c4, rfl, hr4, hn4⟩ := hv4.at; replace hb4 := Lib.hid (xtrans hb3.out hb4); clear hv4; obtain ⟨b4, o4, rfl, hc4⟩ := hr4 0 (by simp [natI]); replace hc4 : w4.cell? ⟨b4, o4 + 0, none⟩ = some (.int .u8 (b : Int)) := hc4; have hc4' : w4.cell? ⟨b4, o4, none⟩ = some (.int .u8 (b : Int)) := hc4; replace hr4 := Lib.hid hr4) | (go_at_call 10; refine (hI.out _).mono ?_; rintro e w5 ⟨rfl, hb5⟩; have ho5 : Hid (OwnU w1 w5 u5 bs) := Lib.hid (own_keep ho4.out hb5); obtain ⟨b5, o5, e5, hc5⟩ := (hr4.out.below hb5) 0 (by simp [natI]); cases e5; replace hc5 : w5.cell? ⟨b4, o4 + 0, none⟩ = some (.int .u8 (b : Int)) := hc5; have hc5' : w5.cell? ⟨b4, o4, none⟩ = some (.int .u8 (b : Int)) := hc5; replace hb5 := Lib.hid (xtrans hb4.out hb5)))
              go_ret2
              rw [hq.out.1, hq.out.2]
              exact ⟨⟨_, rfl, OwnU.nil _ _⟩, xtrans hb1.out hb5.out⟩
            | false =>
              have hfin := Lib.hid (hpg hnb)
              have hnil : nm = [] := by cases nm with
                | nil => rfl
                | cons _ _ => rw [hnb] at hnm; simp at hnm
              subst hnil
              clear hnm hpn hpg
              go_wp2_with (first | (go_at_call 12; refine (hN.out _).mono ?_; rintro e w3 ⟨rfl, hb3⟩; have ho3 : Hid (OwnU w1 w3 u5 bs) := Lib.hid (own_keep hown.out hb3); replace hb3 := Lib.hid (xtrans hb.out hb3); have hd3 := hcell.out w3 hb3.out) | (go_at_call 45; refine (hU.out _).mono ?_; rintro e w4 ⟨⟨v4, rfl, hv4⟩, hb4⟩; have ho4 : Hid (OwnU w1 w4 u5 bs) := Lib.hid (own_keep ho3.out hb4); obtain ⟨a4, c4, rfl, hr4, hn4⟩ := hv4.at; replace hb4 := Lib.hid (xtrans hb3.out hb4); clear hv4; obtain ⟨b4, o4, rfl, hc4⟩ := hr4 0 (by simp [natI]); replace hc4 : w4.cell? ⟨b4, o4 + 0, none⟩ = some (.int .u8 (b : Int)) := hc4; have hc4' : w4.cell? ⟨b4, o4, none⟩ = some (.int .u8 (b : Int)) := hc4; replace hr4 := Lib.hid hr4) | (go_at_call 10; refine (hI.out _).mono ?_; rintro e w5 ⟨rfl, hb5⟩; have ho5 : Hid (OwnU w1 w5 u5 bs) := Lib.hid (own_keep ho4.out hb5); obtain ⟨b5, o5, e5, hc5⟩ := (hr4.out.below hb5) 0 (by simp [natI]); cases e5; replace hc5 : w5.cell? ⟨b4, o4 + 0, none⟩ = some (.int .u8 (b : Int)) := hc5; have hc5' : w5.cell? ⟨b4, o4, none⟩ = some (.int .u8 (b : Int)) := hc5; replace hb5 := Lib.hid (xtrans hb4.out hb5)) | (have hsb5 : w1.heap.size ≤ (w5.alloc (.cells #[.int .u8 (b : Int)] 5)).heap.size := (by have := hb5.out.size; simp only [World.size_alloc]; omega); at_builtin; refine wpList_append_row (w5.alloc (.cells #[.int .u8 (b : Int)] 5)) rfl _ _ 32 rfl w1.heap.size 5 i0 (.int .u8 0) 1 Tryz.underlying32 hi0 hz0 hz1 hz2 rfl _ bs.length _ rfl (ho5.out.alloc _) (some ⟨w5.heap.size, 0, none⟩) 1 .u8 [(b : Int)] rfl (by simp) (rowAt_one w5 5 (b : Int)) (by unfold maxLen; simp; omega) (by simp; omega) hsb5 ?_; intro v8 w8 ho8 hg8; have hb8 := Lib.hid ((xalloc hb5.out _).grown hg8 hsb5 (fun j hj => (ho5.out.lt j hj).1)); replace ho8 : Hid (OwnU w1 w8 v8 (bs ++ [b])) := Lib.hid (by unfold OwnU; rw [List.length_append, natI_app, List.map_append]; exact ho8); clear hg8))
              exact ⟨⟨k + 1, bs ++ [b], by go_num, by omega, by simp; omega, ho8, hfin, hb8⟩, by simp [intOf] <;> omega⟩
          · have hq := Lib.hid (hbad.out (hpw2.1 hu1))
            have hu2 : ((us.length : Int) == 1) = false := by rw [beq_eq_false_iff_ne]; omega
            have hu3 : ¬ (us.length : Int) = 1 := by omega
            have husl : us.length ≤ 100000 := by have := (unhexN_len hus); omega
            clear hpw2 hpw h256
            go_wp2_with (first | (go_at_call 12; refine (hN.out _).mono ?_; rintro e w3 ⟨rfl, hb3⟩; have ho3 : Hid (OwnU w1 w3 u5 bs) := Lib.hid (own_keep hown.out hb3); replace hb3 := Lib.hid (xtrans hb.out hb3); have hd3 := hcell.out w3 hb3.out) | (go_at_call 45; refine (hU.out _).mono ?_; rintro e w4 ⟨⟨v4, rfl, hv4⟩, hb4⟩; have ho4 : Hid (OwnU w1 w4 u5 bs) := Lib.hid (own_keep ho3.out hb4); obtain ⟨a4, c4, rfl, hr4, hn4⟩ := hv4.at; replace hb4 := Lib.hid (xtrans hb3.out hb4); clear hv4))
            go_ret2
            rw [hq.out.1, hq.out.2]
            exact ⟨⟨_, rfl, OwnU.nil _ _⟩, xtrans hb1.out hb4.out⟩
      | some op =>
        rw [hop] at hN
        simp only [Option.getD_some, Option.isSome_some] at hN
        have hop2 := (named_some hop).1
        have hI := Lib.hid fun W => refSize_any op W hop2
        by_cases hz : szN op = 0
        · have hz0I : ¬ (0 : Int) < (szN op : Int) := by omega
          have hfin := Lib.hid (pw_one hs1.out hop hz)
          clear hz
          generalize szN op = z at *
          go_wp2_with (first | (go_at_call 12; refine (hN.out _).mono ?_; rintro e w3 ⟨rfl, hb3⟩; have ho3 : Hid (OwnU w1 w3 u5 bs) := Lib.hid (own_keep hown.out hb3); replace hb3 := Lib.hid (xtrans hb.out hb3); have hd3 := hcell.out w3 hb3.out) | (have hsb3 : w1.heap.size ≤ (w3.alloc (.cells #[.int .u8 (op : Int)] 5)).heap.size := (by have := hb3.out.size; simp only [World.size_alloc]; omega); at_builtin; refine wpList_append_row (w3.alloc (.cells #[.int .u8 (op : Int)] 5)) rfl _ _ 32 rfl w1.heap.size 5 i0 (.int .u8 0) 1 Tryz.underlying32 hi0 hz0 hz1 hz2 rfl _ bs.length _ rfl (ho3.out.alloc _) (some ⟨w3.heap.size, 0, none⟩) 1 .u8 [(op : Int)] rfl (by simp) (rowAt_one w3 5 (op : Int)) (by unfold maxLen; simp; omega) (by simp; omega) hsb3 ?_; intro v5 w5 ho5 hg5; have hb5 := Lib.hid ((xalloc hb3.out _).grown hg5 hsb3 (fun j hj => (ho3.out.lt j hj).1)); replace ho5 : Hid (OwnU w1 w5 v5 (bs ++ [op])) := Lib.hid (by unfold OwnU; rw [List.length_append, natI_app, List.map_append]; exact ho5); clear hg5) | (go_at_call 10; refine (hI.out _).mono ?_; rintro e w6 ⟨⟨nm, iN, oN, gN, qN, rfl⟩, hb6⟩; have ho6 : Hid (OwnU w1 w6 v5 (bs ++ [op])) := Lib.hid (own_keep ho5.out hb6); replace hb6 := Lib.hid (xtrans hb5.out hb6)))
          exact ⟨⟨k + 1, bs ++ [op], by go_num, by omega, by simp; omega, ho6, hfin, hb6⟩, by simp [intOf] <;> omega⟩
        · have hz0I : (0 : Int) < (szN op : Int) := by omega
          have hz32 := szN_le op
          obtain ⟨k1, hk1⟩ : ∃ k1 : Nat, k1 = k + 1 := ⟨_, rfl⟩
          have hwk : IntKind.i64.wrap ((k : Int) + 1) = (k1 : Int) := by simp [IntKind.wrap, IntKind.bits, IntKind.signed]; omega
          by_cases h2 : k + 1 < ws.length
          · have h2I : (k1 : Int) < ws.length := by omega
            have h2E : ((k1 : Int) == (ws.length : Int)) = false := by rw [beq_eq_false_iff_ne]; omega
            have h2F : ¬ (k1 : Int) = (ws.length : Int) := by omega
            rw [List.drop_eq_getElem_cons h2] at hs1
            have hpw := Lib.hid (pw_two hs1.out hop hz)
            have hcell2 : Hid (∀ W, Below w1.heap.size w1 W → W.cell? ⟨b1, o1 + k1, none⟩ = some (.string ⟨ws[k + 1].toArray⟩)) := Lib.hid fun W hW => by
              obtain ⟨b', o', e, hc⟩ := (hS.out W hW) (k + 1) (by rw [List.length_map]; exact h2)
              cases e
              rw [hk1, hc, List.getElem_map]; rfl
            have hyl := hww.out _ (List.getElem_mem h2)
            have hU2 := Lib.hid fun W => refUnhex_any ws[k + 1] W hyl
            generalize ws[k + 1] = y at *
            replace hk1 := Lib.hid hk1
            clear hs1 hU
            cases hus : unhexN y with
            | none =>
              rw [hus] at hU2
              simp only [Option.getD_none, Option.isSome_none] at hU2
              have hq := Lib.hid (hbad.out (hpw.out.1 hus))
              generalize szN op = z at *
              go_wp2_with (first | (go_at_call 12; refine (hN.out _).mono ?_; rintro e w3 ⟨rfl, hb3⟩; have ho3 : Hid (OwnU w1 w3 u5 bs) := Lib.hid (own_keep hown.out hb3); replace hb3 := Lib.hid (xtrans hb.out hb3); have hd3 := hcell.out w3 hb3.out) | (have hsb3 : w1.heap.size ≤ (w3.alloc (.cells #[.int .u8 (op : Int)] 5)).heap.size := (by have := hb3.out.size; simp only [World.size_alloc]; omega); at_builtin; refine wpList_append_row (w3.alloc (.cells #[.int .u8 (op : Int)] 5)) rfl _ _ 32 rfl w1.heap.size 5 i0 (.int .u8 0) 1 Tryz.underlying32 hi0 hz0 hz1 hz2 rfl _ bs.length _ rfl (ho3.out.alloc _) (some ⟨w3.heap.size, 0, none⟩) 1 .u8 [(op : Int)] rfl (by simp) (rowAt_one w3 5 (op : Int)) (by unfold maxLen; simp; omega) (by simp; omega) hsb3 ?_; intro v5 w5 ho5 hg5; have hb5 := Lib.hid ((xalloc hb3.out _).grown hg5 hsb3 (fun j hj => (ho3.out.lt j hj).1)); replace ho5 : Hid (OwnU w1 w5 v5 (bs ++ [op])) := Lib.hid (by unfold OwnU; rw [List.length_append, natI_app, List.map_append]; exact ho5); clear hg5) | (go_at_call 10; refine (hI.out _).mono ?_; rintro e w6 ⟨⟨nm, iN, oN, gN, qN, rfl⟩, hb6⟩; have ho6 : Hid (OwnU w1 w6 v5 (bs ++ [op])) := Lib.hid (own_keep ho5.out hb6); replace hb6 := Lib.hid (xtrans hb5.out hb6); have hd6 := hcell2.out w6 hb6.out) | (go_at_call 45; refine (hU2.out _).mono ?_; rintro e w7 ⟨⟨v7, rfl, hv7⟩, hb7⟩; have ho7 : Hid (OwnU w1 w7 v5 (bs ++ [op])) := Lib.hid (own_keep ho6.out hb7); obtain ⟨a7, c7, rfl, hr7, hn7⟩ := hv7.at; replace hb7 := Lib.hid (xtrans hb6.out hb7); clear hv7))
              go_ret2
              rw [hq.out.1, hq.out.2]
              exact ⟨⟨_, rfl, OwnU.nil _ _⟩, xtrans hb1.out hb7.out⟩
            | some us =>
              rw [hus] at hU2
              simp only [Option.getD_some, Option.isSome_some] at hU2
              have hpw2 := hpw.out.2 us hus
              have husl : us.length ≤ 100000 := by have := (unhexN_len hus); omega
              by_cases hul : us.length = szN op
              · have hfin := Lib.hid (hpw2.2 hul)
                clear hpw2 hpw
                generalize szN op = z at *
                subst hul
                go_wp2_with (first | (go_at_call 12; refine (hN.out _).mono ?_; rintro e w3 ⟨rfl, hb3⟩; have ho3 : Hid (OwnU w1 w3 u5 bs) := Lib.hid (own_keep hown.out hb3); replace hb3 := Lib.hid (xtrans hb.out hb3); have hd3 := hcell.out w3 hb3.out) | (have hsb3 : w1.heap.size ≤ (w3.alloc (.cells #[.int .u8 (op : Int)] 5)).heap.size := (by have := hb3.out.size; simp only [World.size_alloc]; omega); at_builtin; refine wpList_append_row (w3.alloc (.cells #[.int .u8 (op : Int)] 5)) rfl _ _ 32 rfl w1.heap.size 5 i0 (.int .u8 0) 1 Tryz.underlying32 hi0 hz0 hz1 hz2 rfl _ bs.length _ rfl (ho3.out.alloc _) (some ⟨w3.heap.size, 0, none⟩) 1 .u8 [(op : Int)] rfl (by simp) (rowAt_one w3 5 (op : Int)) (by unfold maxLen; simp; omega) (by simp; omega) hsb3 ?_; intro v5 w5 ho5 hg5; have hb5 := Lib.hid ((xalloc hb3.out _).grown hg5 hsb3 (fun j hj => (ho3.out.lt j hj).1)); replace ho5 : Hid (OwnU w1 w5 v5 (bs ++ [op])) := Lib.hid (by unfold OwnU; rw [List.length_append, natI_app, List.map_append]; exact ho5); clear hg5) | (go_at_call 10; refine (hI.out _).mono ?_; rintro e w6 ⟨⟨nm, iN, oN, gN, qN, rfl⟩, hb6⟩; have ho6 : Hid (OwnU w1 w6 v5 (bs ++ [op])) := Lib.hid (own_keep ho5.out hb6); replace hb6 := Lib.hid (xtrans hb5.out hb6); have hd6 := hcell2.out w6 hb6.out) | (go_at_call 45; refine (hU2.out _).mono ?_; rintro e w7 ⟨⟨v7, rfl, hv7⟩, hb7⟩; have ho7 : Hid (OwnU w1 w7 v5 (bs ++ [op])) := Lib.hid (own_keep ho6.out hb7); obtain ⟨a7, c7, rfl, hr7, hn7⟩ := hv7.at; replace hb7 := Lib.hid (xtrans hb6.out hb7); clear hv7) | (have hsb7 : w1.heap.size ≤ w7.heap.size := hb7.out.size; at_builtin; refine wpList_append_row w7 rfl _ _ 32 rfl w1.heap.size 5 i0 (.int .u8 0) 1 Tryz.underlying32 hi0 hz0 hz1 hz2 rfl _ (bs ++ [op]).length _ rfl ho7.out a7 c7 .u8 (natI us) (by rw [natI_len]; rfl) hn7 hr7 (by unfold maxLen; simp [natI_len]; omega) (by simp [natI_len]; omega) hsb7 ?_; intro v8 w8 ho8 hg8; have hb8 := Lib.hid (hb7.out.grown hg8 hsb7 (fun j hj => (ho7.out.lt j hj).1)); replace ho8 : Hid (OwnU w1 w8 v8 (bs ++ [op] ++ us)) := Lib.hid (by unfold OwnU; rw [List.length_append, natI_app, List.map_append]; rw [natI_len] at ho8; exact ho8); clear hg8))
                have hk2 := hk1.out
                subst hk2
                exact ⟨⟨k + 1 + 1, bs ++ [op] ++ us, by go_num, by omega, by simp; omega, ho8, hfin, hb8⟩, by simp [intOf] <;> omega⟩
              · have hq := Lib.hid (hbad.out (hpw2.1 hul))
                have hu2 : ((us.length : Int) == (szN op : Int)) = false := by rw [beq_eq_false_iff_ne]; omega
                have hu3 : ¬ (us.length : Int) = (szN op : Int) := by omega
                clear hpw2 hpw
                generalize szN op = z at *
                go_wp2_with (first | (go_at_call 12; refine (hN.out _).mono ?_; rintro e w3 ⟨rfl, hb3⟩; have ho3 : Hid (OwnU w1 w3 u5 bs) := Lib.hid (own_keep hown.out hb3); replace hb3 := Lib.hid (xtrans hb.out hb3); have hd3 := hcell.out w3 hb3.out) | (have hsb3 : w1.heap.size ≤ (w3.alloc (.cells #[.int .u8 (op : Int)] 5)).heap.size := (by have := hb3.out.size; simp only [World.size_alloc]; omega); at_builtin; refine wpList_append_row (w3.alloc (.cells #[.int .u8 (op : Int)] 5)) rfl _ _ 32 rfl w1.heap.size 5 i0 (.int .u8 0) 1 Tryz.underlying32 hi0 hz0 hz1 hz2 rfl _ bs.length _ rfl (ho3.out.alloc _) (some ⟨w3.heap.size, 0, none⟩) 1 .u8 [(op : Int)] rfl (by simp) (rowAt_one w3 5 (op : Int)) (by unfold maxLen; simp; omega) (by simp; omega) hsb3 ?_; intro v5 w5 ho5 hg5; have hb5 := Lib.hid ((xalloc hb3.out _).grown hg5 hsb3 (fun j hj => (ho3.out.lt j hj).1)); replace ho5 : Hid (OwnU w1 w5 v5 (bs ++ [op])) := Lib.hid (by unfold OwnU; rw [List.length_append, natI_app, List.map_append]; exact ho5); clear hg5) | (go_at_call 10; refine (hI.out _).mono ?_; rintro e w6 ⟨⟨nm, iN, oN, gN, qN, rfl⟩, hb6⟩; have ho6 : Hid (OwnU w1 w6 v5 (bs ++ [op])) := Lib.hid (own_keep ho5.out hb6); replace hb6 := Lib.hid (xtrans hb5.out hb6); have hd6 := hcell2.out w6 hb6.out) | (go_at_call 45; refine (hU2.out _).mono ?_; rintro e w7 ⟨⟨v7, rfl, hv7⟩, hb7⟩; have ho7 : Hid (OwnU w1 w7 v5 (bs ++ [op])) := Lib.hid (own_keep ho6.out hb7); obtain ⟨a7, c7, rfl, hr7, hn7⟩ := hv7.at; replace hb7 := Lib.hid (xtrans hb6.out hb7); clear hv7))
                go_ret2
                rw [hq.out.1, hq.out.2]
                exact ⟨⟨_, rfl, OwnU.nil _ _⟩, xtrans hb1.out hb7.out⟩
          · obtain rfl : k1 = ws.length := by omega
            have hd2 : ws.drop (k + 1) = [] := List.drop_eq_nil_of_le (by omega)
            rw [hd2] at hs1
            have hq := Lib.hid (hbad.out (pw_end hs1.out hop hz))
            generalize szN op = z at *
            go_wp2_with (first | (go_at_call 12; refine (hN.out _).mono ?_; rintro e w3 ⟨rfl, hb3⟩; have ho3 : Hid (OwnU w1 w3 u5 bs) := Lib.hid (own_keep hown.out hb3); replace hb3 := Lib.hid (xtrans hb.out hb3); have hd3 := hcell.out w3 hb3.out) | (have hsb3 : w1.heap.size ≤ (w3.alloc (.cells #[.int .u8 (op : Int)] 5)).heap.size := (by have := hb3.out.size; simp only [World.size_alloc]; omega); at_builtin; refine wpList_append_row (w3.alloc (.cells #[.int .u8 (op : Int)] 5)) rfl _ _ 32 rfl w1.heap.size 5 i0 (.int .u8 0) 1 Tryz.underlying32 hi0 hz0 hz1 hz2 rfl _ bs.length _ rfl (ho3.out.alloc _) (some ⟨w3.heap.size, 0, none⟩) 1 .u8 [(op : Int)] rfl (by simp) (rowAt_one w3 5 (op : Int)) (by unfold maxLen; simp; omega) (by simp; omega) hsb3 ?_; intro v5 w5 ho5 hg5; have hb5 := Lib.hid ((xalloc hb3.out _).grown hg5 hsb3 (fun j hj => (ho3.out.lt j hj).1)); replace ho5 : Hid (OwnU w1 w5 v5 (bs ++ [op])) := Lib.hid (by unfold OwnU; rw [List.length_append, natI_app, List.map_append]; exact ho5); clear hg5) | (go_at_call 10; refine (hI.out _).mono ?_; rintro e w6 ⟨⟨nm, iN, oN, gN, qN, rfl⟩, hb6⟩; have ho6 : Hid (OwnU w1 w6 v5 (bs ++ [op])) := Lib.hid (own_keep ho5.out hb6); replace hb6 := Lib.hid (xtrans hb5.out hb6)))
            go_ret2
            rw [hq.out.1, hq.out.2]
            exact ⟨⟨_, rfl, OwnU.nil _ _⟩, xtrans hb1.out hb6.out⟩
    · obtain rfl : k = ws.length := by omega
      have hq := hst.out
      rw [List.drop_length, parseW] at hq
      have hq2 := Lib.hid (hgood.out bs (by rw [hq]; simp))
      clear hst hq
      go_wp2
      go_ret2
      rw [hq2.out.1, hq2.out.2]
      exact ⟨⟨_, rfl, own_lo hown.out hb1.out.size⟩, xtrans hb1.out hb.out⟩
end Go.Proofs.YtbicfaiabpcgfaaGreatDoor
namespace Go.Proofs.YtbicfaiabpcgfaaGreatDoor
open Go.RowKit

theorem inN_true {l : List Nat} {n : Int} (h : inN l n = true) : ∃ k ∈ l, (k : Int) = n := by
  unfold inN at h
  rw [List.any_eq_true] at h
  obtain ⟨k, h1, h2⟩ := h
  exact ⟨k, h1, by simpa using h2⟩
/-- What a PUSH at a place puts; none. -/
def pushZ (cs : List Nat) (n : Int) : Option Nat := if inN (opsL cs) n = true then pushV cs n.toNat else none
theorem pushZ_nat (cs : List Nat) (n : Nat) : pushZ cs n = pushN cs n := by
  unfold pushZ pushN
  rw [inN_nat, Int.toNat_natCast]
  simp
def optV (r : Option Nat) : Value := .tuple #[wordV (r.getD 0), .bool r.isSome]
end Go.Proofs.YtbicfaiabpcgfaaGreatDoor
namespace Go.Proofs.YtbicfaiabpcgfaaGreatDoor
open Go.RowKit

@[go_sem high] theorem field_name (v0 v1 v2 v3 v4 v5 : Value) (w : World) : (Instr.field 25 (.agg #[v0, v1, v2, v3, v4, v5]) 0).run Tryz.prog w = .ok v0 w := by kernel_rfl
end Go.Proofs.YtbicfaiabpcgfaaGreatDoor
namespace Go.Proofs.YtbicfaiabpcgfaaGreatDoor
open Go.RowKit

theorem rangeAt_below {w w' : World} {b o : Nat} {cs : List Value} (h : w.rangeAt b o cs) (hb : Below w.heap.size w w') : w'.rangeAt b o cs := fun j v hj => cbel hb (h j v hj)
end Go.Proofs.YtbicfaiabpcgfaaGreatDoor
namespace Go.Proofs.YtbicfaiabpcgfaaGreatDoor
open Go.RowKit

theorem run_storeVar_at {P : Program} (w : World) (b i : Nat) (ty : TypeId) (v : Value) (ht : (w.cell? ⟨b, i, none⟩).isSome = true) (hf : w.frozen? ⟨b, i, none⟩ = false) (hi : (P.info? ty).map (·.size) = some 1) (h1 : v.oneCell' = true) :
    (storeVar ty ⟨b, i, none⟩ v).run P w = .ok () (w.setCell ⟨b, i, none⟩ v) := by
  have := run_storeCells_cells (P := P) b i [v] 0 w (fun j hj => by
    have : j = 0 := by simpa using hj
    subst this; simpa using ht) (fun j hj => by
    have : j = 0 := by simpa using hj
    subst this; simpa using hf) (fun u hu => by rw [List.mem_singleton.1 hu]; exact h1)
  have hc : v.cells = #[v] := by cases v <;> first | rfl | cases h1
  cases hq : P.info? ty with
  | none => simp [hq] at hi
  | some k =>
    have hs : k.size = 1 := by simpa [hq] using hi
    simp only [Nat.add_zero] at this
    simp [storeVar, sizeOf, typeInfo, hq, hc, hs, this, World.setCells]
theorem wp_store_at {P : Program} {o : Oper} {a : Act} {w : World} {K : Act → World → Prop} {Q : Exit → Act → World → Prop} (ty : TypeId) (x y : Operand) (ho : o.op = .store ty x y)
    (b i : Nat) (hx : a.eval x = .pointer (some ⟨b, i, none⟩)) (T : TypeId) (vs : List Value) (v : Value) (hB : BlkG w b T vs) (hl : i < vs.length) (hy : a.eval y = v) (hi : (P.info? ty).map (·.size) = some 1) (h1 : v.oneCell' = true)
    (h : ∀ w', BlkG w' b T (vs.set i v) → Only (· = b) w w' → K (a.put o.dst undef) w') : o.wp P a w K Q := by
  unfold Oper.wp execOp
  simp only [ho, hx, hy, Instr.storeAt, Instr.sureAddr, Sem.run_bind, Sem.run_pure, Result.andThen_ok, run_storeVar_at w b i ty v (by rw [hB.cell i hl]; rfl) (hB.free i) hi h1]
  exact h _ (hB.set i v) ((Only.refl _ w).setCell _ _ rfl)
theorem wpList_store_at {P : Program} {ops : Array Oper} {rest : List Oper} {o : Oper} {a : Act} {w : World} {Q : Exit → Act → World → Prop} (hgd : o.guard = none) (ty : TypeId) (x y : Operand) (ho : o.op = .store ty x y)
    (b i : Nat) (hx : a.eval x = .pointer (some ⟨b, i, none⟩)) (T : TypeId) (vs : List Value) (v : Value) (hB : BlkG w b T vs) (hl : i < vs.length) (hy : a.eval y = v) (hi : (P.info? ty).map (·.size) = some 1) (h1 : v.oneCell' = true)
    (h : ∀ w', BlkG w' b T (vs.set i v) → Only (· = b) w w' → wpList P ops Q rest (a.put o.dst undef) w') : wpList P ops Q (o :: rest) a w :=
  wpList_plain hgd fun _ hK => wp_store_at ty x y ho b i hx T vs v hB hl hy hi h1 fun w' h1 h2 => hK _ _ (h w' h1 h2)
/-- An operation whose guard is met. -/
theorem wpList_wanted {P : Program} {ops : Array Oper} {rest : List Oper} {o : Oper} {a : Act} {w : World} {Q : Exit → Act → World → Prop} (hw : Region.wanted o (yielded ops a.tmps) = true)
    (h : ∀ K : Act → World → Prop, (∀ a w, wpList P ops Q rest a w → K a w) → o.wp P a w K Q) : wpList P ops Q (o :: rest) a w :=
  wpList_step fun K hK => by rw [if_pos hw]; exact h K hK
theorem wpList_load_blkG_g {P : Program} {ops : Array Oper} {rest : List Oper} {o : Oper} {a : Act} {w : World} {Q : Exit → Act → World → Prop} (hw : Region.wanted o (yielded ops a.tmps) = true) (ty : TypeId) (x : Operand) (ho : o.op = .load ty x)
    (b : Nat) (hx : a.eval x = .pointer (some ⟨b, 0, none⟩)) (T : TypeId) (vs : List Value) (d : TypeDesc) (hB : BlkG w b T vs) (hu : P.underlying ty = some d) (hd : (match d with | .struct _ | .array _ _ => true | _ => false) = true) (hi : (P.info? ty).map (·.size) = some vs.length)
    (h : wpList P ops Q rest (a.put o.dst (.agg vs.toArray)) w) : wpList P ops Q (o :: rest) a w :=
  wpList_wanted hw fun _ hK => wp_load_blkG ty x ho b hx T vs d hB hu hd hi (hK _ _ h)
end Go.Proofs.YtbicfaiabpcgfaaGreatDoor
namespace Go.Proofs.YtbicfaiabpcgfaaGreatDoor
open Go.RowKit

theorem getD_lt {α : Type} {l : List α} {i : Nat} (d : α) (h : i < l.length) : l.getD i d = l[i] := by simp [h]
end Go.Proofs.YtbicfaiabpcgfaaGreatDoor
