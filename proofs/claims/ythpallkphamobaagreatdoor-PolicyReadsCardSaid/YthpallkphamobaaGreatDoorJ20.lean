/- Texts of this claim, merged; no condition. -/
import Derived.Test.YthpallkphamobaaGreatDoorJ19
set_option linter.all false
namespace Go.Proofs.YthpallkphamobaaGreatDoor
open Go.RowKit Go.Shelf

theorem pm_snoc {M : Nat} (c : UInt8) (hc : 48 ≤ c.toNat ∧ c.toNat ≤ 57) : ∀ (l : List UInt8) (acc u : Nat), Lib.parseUintM M acc l = .ok u → u < 1844674407370955162 → u * 10 + (c.toNat - 48) ≤ M → Lib.parseUintM M acc (l ++ [c]) = .ok (u * 10 + (c.toNat - 48))
  | [], acc, u, h, h1, h2 => by
    rw [Lib.parseUintM] at h
    injection h with h
    subst h
    rw [List.nil_append, Lib.parseUintM, if_pos hc, if_neg (by omega), if_neg (by omega), Lib.parseUintM]
  | x :: l, acc, u, h, h1, h2 => by
    rw [Lib.parseUintM] at h
    rw [List.cons_append, Lib.parseUintM]
    by_cases hx : 48 ≤ x.toNat ∧ x.toNat ≤ 57
    · rw [if_pos hx] at h ⊢
      by_cases h3 : 1844674407370955162 ≤ acc
      · rw [if_pos h3] at h; cases h
      · rw [if_neg h3] at h ⊢
        by_cases h4 : M < acc * 10 + (x.toNat - 48)
        · rw [if_pos h4] at h; cases h
        · rw [if_neg h4] at h ⊢
          exact pm_snoc c hc l _ u h h1 h2
    · rw [if_neg hx] at h; cases h
theorem ofNat_toNat (k : Nat) (h : k < 10) : (UInt8.ofNat (48 + k)).toNat = 48 + k := by
  have : (48 + k) % 256 = 48 + k := Nat.mod_eq_of_lt (by omega)
  simp [UInt8.toNat_ofNat', this]
theorem pm_dec {M : Nat} (hM : M < 18446744073709551616) : ∀ n : Nat, n ≤ M → Lib.parseUintM M 0 (Lib.decDigits n) = .ok n := by
  intro n
  induction n using Nat.strongRecOn with
  | _ n ih =>
    intro hn
    rw [Lib.decDigits]
    by_cases h : n < 10
    · rw [dif_pos h, Lib.parseUintM, ofNat_toNat n h, if_pos (by omega), if_neg (by omega), if_neg (by omega), Lib.parseUintM]
      congr 1; omega
    · rw [dif_neg h, pm_snoc _ (by rw [ofNat_toNat _ (by omega)]; omega) _ 0 (n / 10) (ih (n / 10) (by omega) (by omega)) (by omega) (by rw [ofNat_toNat _ (by omega)]; omega), ofNat_toNat _ (by omega)]
      congr 1; omega
theorem pu_dec (n : Nat) (h : n < 4294967296) : Lib.parseUintB 32 (Lib.decDigits n) = .ok n := by
  have hne : Lib.decDigits n ≠ [] := fun e => by have := Lib.decDigits_length n; rw [e] at this; have := Lib.nDigits_pos n; simp at *; omega
  rw [Lib.parseUintB, if_neg hne]
  exact pm_dec (by decide) n (by show n ≤ 4294967295; omega)
/-- What the library's reading of a number tells of it. -/
theorem num_ok {s : List UInt8} {u : Nat} (h : Lib.parseUintB 32 s = .ok u) : u < 4294967296 ∧ numF s = if Lib.decDigits u = s then some u else none := by
  have hu : u < 4294967296 := by have := Lib.parseUintB_le h; simp at this; omega
  refine ⟨hu, ?_⟩
  by_cases he : Lib.decDigits u = s
  · rw [if_pos he, ← he, num_dec hu]
  · rw [if_neg he]
    cases hn : numF s with
    | none => rfl
    | some n =>
      obtain ⟨e, hl⟩ := num_some hn
      rw [← e, pu_dec n hl] at h
      injection h with h
      exact absurd (h ▸ e) he
theorem num_no {s : List UInt8} (h : ∀ u, Lib.parseUintB 32 s ≠ .ok u) : numF s = none := by
  cases hn : numF s with
  | none => rfl
  | some n =>
    obtain ⟨e, hl⟩ := num_some hn
    exact absurd (e ▸ pu_dec n hl) (h n)
def takeN (ws : List (List UInt8)) : Option (Nat × List (List UInt8)) := match ws with
  | x :: r => (numF x).map fun n => (n, r)
  | [] => none
/-- How a number's reading ends. -/
def NmPost (g : Nat) (p : PolN) (vc vr : Value) (o : Option (Nat × List (List UInt8))) (w : World) (e : Ending) (w' : World) : Prop := (o = none → e = .panicked (errP 190)) ∧ (∀ n r, o = some (n, r) → e = .returned (.int .u32 n) ∧ RdS w' g p vc vr r) ∧ BelowS g w w'
theorem NmPost.bad {g : Nat} {p : PolN} {vc vr : Value} {o : Option (Nat × List (List UInt8))} {w w' : World} (h : o = none) (hb : BelowS g w w') : NmPost g p vc vr o w (.panicked (errP 190)) w' := ⟨fun _ => rfl, fun n r e => (by rw [h] at e; cases e), hb⟩
theorem NmPost.good {g : Nat} {p : PolN} {vc vr : Value} {o : Option (Nat × List (List UInt8))} {w w' : World} {n : Nat} {r : List (List UInt8)} (h : o = some (n, r)) (hE : RdS w' g p vc vr r) (hb : BelowS g w w') : NmPost g p vc vr o w (.returned (.int .u32 n)) w' :=
  ⟨fun e => (by rw [h] at e; cases e), fun n' r' e => by rw [h] at e; cases e; exact ⟨rfl, hE⟩, hb⟩
/-- The library's reading of a number: it fails. -/
theorem pu_fail (x : List UInt8) (hx : x.length ≤ 65536) (h : ∀ u, Lib.parseUintB 32 x ≠ .ok u) (w : World) (hT : TabP w) : Calls Tryz.prog 136 #[.string ⟨x.toArray⟩, .int .i64 10, .int .i64 32] w fun e w' => (∃ (m : Nat) (te : TypeId) (N : Nat), e = .returned (.tuple #[.int .u64 m, .iface te (.pointer (some ⟨N, 0, none⟩))])) ∧ Below w.heap.size w w' := by
  have hsz : (⟨x.toArray⟩ : ByteArray).size ≤ 281474976710656 := by show x.toArray.size ≤ _; simp; omega
  cases hp : Lib.parseUintB 32 x with
  | ok u => exact absurd hp (h u)
  | «syntax» =>
    obtain ⟨te, pe, hs⟩ := hT.syn
    exact (Tryz.strconv_ParseUint_10_at32_syntax ⟨x.toArray⟩ hsz hp _ w hs (.inr ⟨te, pe, rfl⟩)).mono fun e w' ⟨N, h1, _, _, h4⟩ => ⟨⟨0, _, N, h1⟩, h4⟩
  | range =>
    obtain ⟨te, pe, hs⟩ := hT.rng
    exact (Tryz.strconv_ParseUint_10_at32_range ⟨x.toArray⟩ hsz hp _ w hs (.inr ⟨te, pe, rfl⟩)).mono fun e w' ⟨N, h1, _, _, h4⟩ => ⟨⟨4294967295, _, N, h1⟩, h4⟩
theorem pu_good (x : List UInt8) (hx : x.length ≤ 65536) (u : Nat) (h : Lib.parseUintB 32 x = .ok u) (w : World) : Calls Tryz.prog 136 #[.string ⟨x.toArray⟩, .int .i64 10, .int .i64 32] w fun e w' => e = .returned (.tuple #[.int .u64 u, .nilIface]) ∧ Below w.heap.size w w' :=
  (Tryz.strconv_ParseUint_10_at32_ok ⟨x.toArray⟩ (by show x.toArray.size ≤ _; simp; omega) u h w).mono fun e w' ⟨h1, h2⟩ => ⟨h1, by
    rcases h2 with rfl | rfl
    · exact xrefl _
    · exact Lib.bytesWorld_below _ _ _⟩
set_option maxRecDepth 100000 in
set_option maxHeartbeats 8000000 in
theorem number_any (g : Nat) (p : PolN) (vc vr : Value) (ws : List (List UInt8)) (w : World) (hS : RdS w g p vc vr ws) (hT : TabP w) (hg : 8 ≤ g) (hw : ∀ x ∈ ws, x.length ≤ 65536) :
    Calls Tryz.prog 124 #[.pointer (some ⟨g, 0, none⟩)] w (NmPost g p vc vr (takeN ws) w) := by
  have hmt := Lib.hid fun W => must_true 190 W
  have hmf := Lib.hid fun W => must_false 190 W
  have hgl := hS.lt
  have hgg : BelowS g w w := BelowS.refl _ _
  cases ws with
  | nil =>
    have hbad : Hid (∀ W, BelowS g w W → NmPost g p vc vr (takeN []) w (.panicked (errP 190)) W) := Lib.hid fun W hb => NmPost.bad rfl hb
    have htk := Lib.hid (take_none g _ _ _ w hS.wd)
    clear hS hT hw
    go_enter Tryz.func124, Tryz.ntmps124
    go_wp2_with (go_at_call 97; refine htk.out.mono ?_; rintro e w2 ⟨rfl, rfl⟩)
    exact ⟨rfl, hbad.out _ hgg⟩
  | cons x r =>
    have hxl : x.length ≤ 65536 := hw x (by simp)
    have htk := Lib.hid (take_one g _ _ _ x r w hS.wd)
    have hSt : Hid (∀ W2, WdAt W2 g p.dflt vc vr r → OnlyG g w W2 → RdS W2 g p vc vr r) := Lib.hid fun W2 h1 h2 => hS.took h1 h2
    have hTt : Hid (∀ W2, BelowS g w W2 → TabP W2) := Lib.hid fun W2 h => hT.belowG h.b hg
    by_cases hp : ∃ u, Lib.parseUintB 32 x = .ok u
    · obtain ⟨u, hp⟩ := hp
      obtain ⟨hu, hn⟩ := num_ok hp
      have hpu := Lib.hid (pu_good x hxl u hp)
      have hfm := Lib.hid (fmt_any u hu)
      have hcv : IntKind.u32.wrap (u : Int) = (u : Int) := by simp [IntKind.wrap, IntKind.bits, IntKind.signed]; omega
      by_cases he : Lib.decDigits u = x
      · rw [if_pos he] at hn
        have hgood : Hid (∀ W, RdS W g p vc vr r → BelowS g w W → NmPost g p vc vr (takeN (x :: r)) w (.returned (.int .u32 u)) W) := Lib.hid fun W h hb => NmPost.good (by show (numF x).map _ = _; rw [hn]; rfl) h hb
        clear hS hT hw hp hn
        rw [he] at hfm
        clear he
        go_enter Tryz.func124, Tryz.ntmps124
        go_wp2_with (first
          | (go_at_call 97; refine htk.out.mono ?_; rintro e w2 ⟨rfl, hW2, ho2⟩; have hs2 := ho2.size; have hR2 := Lib.hid (hSt.out _ hW2 ho2); replace ho2 := Lib.hid (below_only hgg ho2 (by omega) (by rintro k rfl; exact Nat.le_refl _)); clear hW2)
          | (go_at_call 136; refine (hpu.out _).mono ?_; rintro e w3 ⟨rfl, hb3⟩; have hs3 := hb3.size; have hR3 := Lib.hid (hR2.out.below hb3); replace hb3 := Lib.hid (below_to ho2.out hb3 (by omega)))
          | (go_at_call 106; refine (hfm.out _ (hTt.out _ hb3.out).pow10).mono ?_; rintro e w4 ⟨rfl, hb4⟩; have hs4 := hb4.size; have hR4 := Lib.hid (hR3.out.below hb4); replace hb4 := Lib.hid (below_to hb3.out hb4 (by omega)))
          | (go_at_call 59; refine (hmt.out _).mono ?_; rintro e w5 ⟨rfl, rfl⟩))
        go_ret
        exact hgood.out _ hR4.out hb4.out
      · rw [if_neg he] at hn
        have hbad : Hid (∀ W, BelowS g w W → NmPost g p vc vr (takeN (x :: r)) w (.panicked (errP 190)) W) := Lib.hid fun W hb => NmPost.bad (by show (numF x).map _ = _; rw [hn]; rfl) hb
        have he2 : (Lib.decDigits u == x) = false := by simpa using he
        clear hS hT hw hp hn
        go_enter Tryz.func124, Tryz.ntmps124
        go_wp2_with (first
          | (go_at_call 97; refine htk.out.mono ?_; rintro e w2 ⟨rfl, hW2, ho2⟩; have hs2 := ho2.size; replace ho2 := Lib.hid (below_only hgg ho2 (by omega) (by rintro k rfl; exact Nat.le_refl _)); clear hW2)
          | (go_at_call 136; refine (hpu.out _).mono ?_; rintro e w3 ⟨rfl, hb3⟩; have hs3 := hb3.size; replace hb3 := Lib.hid (below_to ho2.out hb3 (by omega)))
          | (go_at_call 106; refine (hfm.out _ (hTt.out _ hb3.out).pow10).mono ?_; rintro e w4 ⟨rfl, hb4⟩; have hs4 := hb4.size; replace hb4 := Lib.hid (below_to hb3.out hb4 (by omega)))
          | (go_at_call 59; refine (hmf.out _).mono ?_; rintro e w5 ⟨rfl, rfl⟩))
        exact ⟨rfl, hbad.out _ hb4.out⟩
    · have hn := num_no (s := x) fun u h => hp ⟨u, h⟩
      have hbad : Hid (∀ W, BelowS g w W → NmPost g p vc vr (takeN (x :: r)) w (.panicked (errP 190)) W) := Lib.hid fun W hb => NmPost.bad (by show (numF x).map _ = _; rw [hn]; rfl) hb
      have hpu := Lib.hid (pu_fail x hxl fun u h => hp ⟨u, h⟩)
      clear hS hT hw hp hn
      go_enter Tryz.func124, Tryz.ntmps124
      go_wp2_with (first
        | (go_at_call 97; refine htk.out.mono ?_; rintro e w2 ⟨rfl, hW2, ho2⟩; have hs2 := ho2.size; replace ho2 := Lib.hid (below_only hgg ho2 (by omega) (by rintro k rfl; exact Nat.le_refl _)); clear hW2)
        | (go_at_call 136; refine (hpu.out _ (hTt.out _ ho2.out)).mono ?_; rintro e w3 ⟨⟨m3, te3, N3, rfl⟩, hb3⟩; have hs3 := hb3.size; replace hb3 := Lib.hid (below_to ho2.out hb3 (by omega)))
        | (go_at_call 59; refine (hmf.out _).mono ?_; rintro e w5 ⟨rfl, rfl⟩))
      exact ⟨rfl, hbad.out _ hb3.out⟩
end Go.Proofs.YthpallkphamobaaGreatDoor
