/- Texts of this claim, merged; no condition. -/
import Derived.Test.YtijkdabmegbcjaaGreatDoorT22
import Derived.Test.YtijkdabmegbcjaaGreatDoorT04
import Derived.Test.YtijkdabmegbcjaaGreatDoorTA
set_option linter.all false
namespace Go.Proofs.YtijkdabmegbcjaaGreatDoor
open Go.RowKit Go.Shelf
def EndS (B nb cb : Nat) (v0 v1 vb : Value) (m : Nat) (xs : List Value) (u : Value) (w w' : World) : Prop :=
  Only (fun k => k = nb ∨ k = cb ∨ vb.ownBlock = some k) w w' ∧ Box w' nb (.slice none 0 0) 71 ∧ ∃ vb', BlkG w' cb 76 [v0, v1, vb'] ∧ w'.ownsRow B 71 1 vb' (m + 1) (xs ++ [u])
theorem info_opsl : (Tryz.prog.info? 71).map (fun i => (i.zero, i.size, i.bytes)) = some (some (.slice none 0 0), 1, 24) := by kernel_rfl
theorem end_none (nb xb : Nat) (w : World) (h1 : Box w nb (.slice none 0 0) 71) :
    Calls Tryz.prog 72 #[.pointer (some ⟨nb, 0, none⟩), .pointer (some ⟨xb, 0, none⟩)] w fun e w' => e = .returned (.tuple #[]) ∧ Only (· = nb) w w' ∧ Box w' nb (.slice none 0 0) 71 := by
  have hc := h1.cell
  have hf := h1.free
  replace h1 := qh h1
  go_enter Tryz.func72, Tryz.ntmps72
  go_wp2
  go_end0
  exact ⟨rfl, (Only.refl _ _).setCell _ _ rfl, h1.out.set _⟩
set_option maxRecDepth 100000 in
set_option maxHeartbeats 8000000 in
theorem end_any (nb xb cb B : Nat) (a4 : Option Addr) (c4 n4 : Nat) (v0 v1 vb : Value) (m : Nat) (xs : List Value) (w : World) (h0 : 0 < n4) (h1 : Box w nb (.slice a4 n4 c4) 71) (h2 : Box w xb (.pointer (some ⟨cb, 0, none⟩)) 69)
    (h3 : BlkG w cb 76 [v0, v1, vb]) (h4 : w.ownsRow B 71 1 vb m xs) (hB : B ≤ w.heap.size) (hnB : nb < B) (hxB : xb < B) (hm : m ≤ 1000) :
    Calls Tryz.prog 72 #[.pointer (some ⟨nb, 0, none⟩), .pointer (some ⟨xb, 0, none⟩)] w fun e w' => e = .returned (.tuple #[]) ∧ EndS B nb cb v0 v1 vb m xs (.slice a4 n4 c4) w w' := by
  obtain ⟨i0, hi0, hz0, hz1, hz2⟩ := info_parts info_opsl
  have h0I : (0 : Int) < n4 := by omega
  have hc := h1.cell
  have hn0 := qh h1
  have hx0 := qh h2
  have hX0 := qh h3
  have hv0 := qh h4
  have hcg : Hid (¬ vb.ownBlock = some cb) := qh (own_neG h4 h3 (by decide))
  have hng : Hid (¬ vb.ownBlock = some nb) := qh fun e => by have := (own_lt h4 e).1; omega
  have hxg : Hid (¬ vb.ownBlock = some xb) := qh fun e => by have := (own_lt h4 e).1; omega
  have hnc0 : Hid (nb ≠ cb) := qh fun e => by
    unfold Box at h1; unfold BlkG at h3
    rw [e, h3] at h1
    injection h1 with h1; injection h1 with h5 h6
    exact absurd h6 (by decide)
  clear h1 h2 h3 h4
  go_enter Tryz.func72, Tryz.ntmps72
  go_wp2
  obtain ⟨I, hI⟩ : ∃ I : (Nat → Bool) → Act → World → Prop, ∀ d a wx, I d a wx ↔ (∃ s5 s6 s7 s8 s9 s10 s11 s12 s13 s14 : Value, a = { tmps := #[.pointer (some ⟨nb, 0, none⟩), .pointer (some ⟨xb, 0, none⟩), .slice a4 n4 c4, .int .i64 n4, .bool true, s5, s6, s7, s8, s9, s10, s11, s12, s13, s14], defers := [] } ∧ (d 0 = true → s5 = (.pointer (some ⟨cb, 0, none⟩))) ∧ (d 1 = true → s6 = (.pointer (some ⟨cb, 0, none⟩))) ∧ (d 2 = true → s7 = (.pointer (some ⟨cb, 0, none⟩))) ∧ (d 3 = true → s8 = (.pointer (some ⟨cb, 2, none⟩))) ∧ (d 4 = true → s9 = vb) ∧ (d 5 = true → s10 = (.slice a4 n4 c4)) ∧ (d 6 = true → ∃ q : Nat, s11 = .slice (some ⟨q, 0, none⟩) 1 1 ∧ (d 7 = false → wx.cell? ⟨q, 0, none⟩ = some (.slice a4 n4 c4))) ∧ (d 8 = true → s13 = (.pointer (some ⟨cb, 0, none⟩))) ∧ (d 9 = true → s14 = (.pointer (some ⟨cb, 2, none⟩))) ∧ (d 7 = false → Below w.heap.size w wx) ∧ (d 7 = true → wx.ownsRow B 71 1 s12 (m + 1) (xs ++ [(.slice a4 n4 c4)])) ∧ (Only (fun k => (d 10 = true ∧ k = cb) ∨ vb.ownBlock = some k) w wx) ∧ (d 10 = true → BlkG wx cb 76 [v0, v1, s12]) ∧ (d 9 = true → d 8 = true) ∧ (d 10 = true → d 0 = true ∧ d 1 = true ∧ d 2 = true ∧ d 3 = true ∧ d 4 = true ∧ d 5 = true ∧ d 6 = true ∧ d 7 = true ∧ d 8 = true ∧ d 9 = true)) := ⟨_, fun _ _ _ => Iff.rfl⟩
  replace hI := qh hI
  refine wp_region_inv (by kernel_rfl) (by kernel_rfl) I ?_ ?_ ?_
  · exact (hI.out _ _ _).2 ⟨undef, undef, undef, undef, undef, undef, undef, undef, undef, undef, rfl, by simp, by simp, by simp, by simp, by simp, by simp, by simp, by simp, by simp, fun _ => xdrew (xrefl w), by simp, (Only.refl _ w).drew, by simp, by simp, by simp⟩
  · refine ⟨?_, ?_, ?_, ?_, ?_, ?_, ?_, ?_, ?_, ?_, ?_, trivial⟩
    · rintro d a wx hni hwt hi
      obtain ⟨s5, s6, s7, s8, s9, s10, s11, s12, s13, s14, rfl, f0, f1, f2, f3, f4, f5, f6, f8, f9, h1, h2, h3, g10, e9, e10⟩ := (hI.out d a wx).1 hi
      clear hi
      simp [waitsFor, Region.binds] at hwt hni
      replace f0 := qh f0
      replace f1 := qh f1
      replace f2 := qh f2
      replace f3 := qh f3
      replace f4 := qh f4
      replace f5 := qh f5
      replace f6 := qh f6
      replace f8 := qh f8
      replace f9 := qh f9
      replace h1 := qh h1
      replace h2 := qh h2
      replace h3 := qh h3
      replace g10 := qh g10
      replace e9 := qh e9
      replace e10 := qh e10
      have hd10 : d 10 = false := by cases hq : d 10 with
        | false => rfl
        | true => have := e10.out hq; simp_all
      have hO3 := h3.out.mono (O' := fun k => k = cb ∨ vb.ownBlock = some k) (fun k _ h => h.elim (fun h => .inl h.2) .inr)
      have hO := h3.out.mono (O' := fun k => vb.ownBlock = some k) (fun k _ h => h.elim (fun h => by rw [hd10] at h; cases h.1) id)
      have hX := hX0.out.only hO hcg.out
      have hxc := (hx0.out.only hO hxg.out).cell
      have hnc := (hn0.out.only hO hng.out).cell
      go_simp
      exact (hI.out _ _ _).2 ⟨(.pointer (some ⟨cb, 0, none⟩)), s6, s7, s8, s9, s10, s11, s12, s13, s14, rfl, fun _ => rfl, by simpa [also] using f1.out, by simpa [also] using f2.out, by simpa [also] using f3.out, by simpa [also] using f4.out, by simpa [also] using f5.out, by simpa [also] using f6.out, by simpa [also] using f8.out, by simpa [also] using f9.out, by simpa [also] using h1.out, by simpa [also] using h2.out, by simpa [also] using h3.out, by simpa [also] using g10.out, by simpa [also] using e9.out, by simp [also, hd10]⟩
    · rintro d a wx hni hwt hi
      obtain ⟨s5, s6, s7, s8, s9, s10, s11, s12, s13, s14, rfl, f0, f1, f2, f3, f4, f5, f6, f8, f9, h1, h2, h3, g10, e9, e10⟩ := (hI.out d a wx).1 hi
      clear hi
      simp [waitsFor, Region.binds] at hwt hni
      replace f0 := qh f0
      replace f1 := qh f1
      replace f2 := qh f2
      replace f3 := qh f3
      replace f4 := qh f4
      replace f5 := qh f5
      replace f6 := qh f6
      replace f8 := qh f8
      replace f9 := qh f9
      replace h1 := qh h1
      replace h2 := qh h2
      replace h3 := qh h3
      replace g10 := qh g10
      replace e9 := qh e9
      replace e10 := qh e10
      have hd10 : d 10 = false := by cases hq : d 10 with
        | false => rfl
        | true => have := e10.out hq; simp_all
      have hO3 := h3.out.mono (O' := fun k => k = cb ∨ vb.ownBlock = some k) (fun k _ h => h.elim (fun h => .inl h.2) .inr)
      have hO := h3.out.mono (O' := fun k => vb.ownBlock = some k) (fun k _ h => h.elim (fun h => by rw [hd10] at h; cases h.1) id)
      have hX := hX0.out.only hO hcg.out
      have hxc := (hx0.out.only hO hxg.out).cell
      have hnc := (hn0.out.only hO hng.out).cell
      go_simp
      exact (hI.out _ _ _).2 ⟨s5, (.pointer (some ⟨cb, 0, none⟩)), s7, s8, s9, s10, s11, s12, s13, s14, rfl, by simpa [also] using f0.out, fun _ => rfl, by simpa [also] using f2.out, by simpa [also] using f3.out, by simpa [also] using f4.out, by simpa [also] using f5.out, by simpa [also] using f6.out, by simpa [also] using f8.out, by simpa [also] using f9.out, by simpa [also] using h1.out, by simpa [also] using h2.out, by simpa [also] using h3.out, by simpa [also] using g10.out, by simpa [also] using e9.out, by simp [also, hd10]⟩
    · rintro d a wx hni hwt hi
      obtain ⟨s5, s6, s7, s8, s9, s10, s11, s12, s13, s14, rfl, f0, f1, f2, f3, f4, f5, f6, f8, f9, h1, h2, h3, g10, e9, e10⟩ := (hI.out d a wx).1 hi
      clear hi
      simp [waitsFor, Region.binds] at hwt hni
      replace f0 := qh f0
      replace f1 := qh f1
      replace f2 := qh f2
      replace f3 := qh f3
      replace f4 := qh f4
      replace f5 := qh f5
      replace f6 := qh f6
      replace f8 := qh f8
      replace f9 := qh f9
      replace h1 := qh h1
      replace h2 := qh h2
      replace h3 := qh h3
      replace g10 := qh g10
      replace e9 := qh e9
      replace e10 := qh e10
      have hd10 : d 10 = false := by cases hq : d 10 with
        | false => rfl
        | true => have := e10.out hq; simp_all
      have hO3 := h3.out.mono (O' := fun k => k = cb ∨ vb.ownBlock = some k) (fun k _ h => h.elim (fun h => .inl h.2) .inr)
      have hO := h3.out.mono (O' := fun k => vb.ownBlock = some k) (fun k _ h => h.elim (fun h => by rw [hd10] at h; cases h.1) id)
      have hX := hX0.out.only hO hcg.out
      have hxc := (hx0.out.only hO hxg.out).cell
      have hnc := (hn0.out.only hO hng.out).cell
      have q0 := f1.out (by simp [hwt])
      subst q0
      go_simp
      exact (hI.out _ _ _).2 ⟨s5, (.pointer (some ⟨cb, 0, none⟩)), (.pointer (some ⟨cb, 0, none⟩)), s8, s9, s10, s11, s12, s13, s14, rfl, by simpa [also] using f0.out, by simpa [also] using f1.out, fun _ => rfl, by simpa [also] using f3.out, by simpa [also] using f4.out, by simpa [also] using f5.out, by simpa [also] using f6.out, by simpa [also] using f8.out, by simpa [also] using f9.out, by simpa [also] using h1.out, by simpa [also] using h2.out, by simpa [also] using h3.out, by simpa [also] using g10.out, by simpa [also] using e9.out, by simp [also, hd10]⟩
    · rintro d a wx hni hwt hi
      obtain ⟨s5, s6, s7, s8, s9, s10, s11, s12, s13, s14, rfl, f0, f1, f2, f3, f4, f5, f6, f8, f9, h1, h2, h3, g10, e9, e10⟩ := (hI.out d a wx).1 hi
      clear hi
      simp [waitsFor, Region.binds] at hwt hni
      replace f0 := qh f0
      replace f1 := qh f1
      replace f2 := qh f2
      replace f3 := qh f3
      replace f4 := qh f4
      replace f5 := qh f5
      replace f6 := qh f6
      replace f8 := qh f8
      replace f9 := qh f9
      replace h1 := qh h1
      replace h2 := qh h2
      replace h3 := qh h3
      replace g10 := qh g10
      replace e9 := qh e9
      replace e10 := qh e10
      have hd10 : d 10 = false := by cases hq : d 10 with
        | false => rfl
        | true => have := e10.out hq; simp_all
      have hO3 := h3.out.mono (O' := fun k => k = cb ∨ vb.ownBlock = some k) (fun k _ h => h.elim (fun h => .inl h.2) .inr)
      have hO := h3.out.mono (O' := fun k => vb.ownBlock = some k) (fun k _ h => h.elim (fun h => by rw [hd10] at h; cases h.1) id)
      have hX := hX0.out.only hO hcg.out
      have hxc := (hx0.out.only hO hxg.out).cell
      have hnc := (hn0.out.only hO hng.out).cell
      have q0 := f2.out (by simp [hwt])
      subst q0
      go_simp
      exact (hI.out _ _ _).2 ⟨s5, s6, (.pointer (some ⟨cb, 0, none⟩)), (.pointer (some ⟨cb, 2, none⟩)), s9, s10, s11, s12, s13, s14, rfl, by simpa [also] using f0.out, by simpa [also] using f1.out, by simpa [also] using f2.out, fun _ => rfl, by simpa [also] using f4.out, by simpa [also] using f5.out, by simpa [also] using f6.out, by simpa [also] using f8.out, by simpa [also] using f9.out, by simpa [also] using h1.out, by simpa [also] using h2.out, by simpa [also] using h3.out, by simpa [also] using g10.out, by simpa [also] using e9.out, by simp [also, hd10]⟩
    · rintro d a wx hni hwt hi
      obtain ⟨s5, s6, s7, s8, s9, s10, s11, s12, s13, s14, rfl, f0, f1, f2, f3, f4, f5, f6, f8, f9, h1, h2, h3, g10, e9, e10⟩ := (hI.out d a wx).1 hi
      clear hi
      simp [waitsFor, Region.binds] at hwt hni
      replace f0 := qh f0
      replace f1 := qh f1
      replace f2 := qh f2
      replace f3 := qh f3
      replace f4 := qh f4
      replace f5 := qh f5
      replace f6 := qh f6
      replace f8 := qh f8
      replace f9 := qh f9
      replace h1 := qh h1
      replace h2 := qh h2
      replace h3 := qh h3
      replace g10 := qh g10
      replace e9 := qh e9
      replace e10 := qh e10
      have hd10 : d 10 = false := by cases hq : d 10 with
        | false => rfl
        | true => have := e10.out hq; simp_all
      have hO3 := h3.out.mono (O' := fun k => k = cb ∨ vb.ownBlock = some k) (fun k _ h => h.elim (fun h => .inl h.2) .inr)
      have hO := h3.out.mono (O' := fun k => vb.ownBlock = some k) (fun k _ h => h.elim (fun h => by rw [hd10] at h; cases h.1) id)
      have hX := hX0.out.only hO hcg.out
      have hxc := (hx0.out.only hO hxg.out).cell
      have hnc := (hn0.out.only hO hng.out).cell
      have q0 := f3.out (by simp [hwt])
      subst q0
      have hcb := hX.cell 2 (by show 2 < 3; omega)
      simp only [List.getElem_cons_zero, List.getElem_cons_succ] at hcb
      go_simp
      exact (hI.out _ _ _).2 ⟨s5, s6, s7, (.pointer (some ⟨cb, 2, none⟩)), vb, s10, s11, s12, s13, s14, rfl, by simpa [also] using f0.out, by simpa [also] using f1.out, by simpa [also] using f2.out, by simpa [also] using f3.out, fun _ => rfl, by simpa [also] using f5.out, by simpa [also] using f6.out, by simpa [also] using f8.out, by simpa [also] using f9.out, by simpa [also] using h1.out, by simpa [also] using h2.out, by simpa [also] using h3.out, by simpa [also] using g10.out, by simpa [also] using e9.out, by simp [also, hd10]⟩
    · rintro d a wx hni hwt hi
      obtain ⟨s5, s6, s7, s8, s9, s10, s11, s12, s13, s14, rfl, f0, f1, f2, f3, f4, f5, f6, f8, f9, h1, h2, h3, g10, e9, e10⟩ := (hI.out d a wx).1 hi
      clear hi
      simp [waitsFor, Region.binds] at hwt hni
      replace f0 := qh f0
      replace f1 := qh f1
      replace f2 := qh f2
      replace f3 := qh f3
      replace f4 := qh f4
      replace f5 := qh f5
      replace f6 := qh f6
      replace f8 := qh f8
      replace f9 := qh f9
      replace h1 := qh h1
      replace h2 := qh h2
      replace h3 := qh h3
      replace g10 := qh g10
      replace e9 := qh e9
      replace e10 := qh e10
      have hd10 : d 10 = false := by cases hq : d 10 with
        | false => rfl
        | true => have := e10.out hq; simp_all
      have hO3 := h3.out.mono (O' := fun k => k = cb ∨ vb.ownBlock = some k) (fun k _ h => h.elim (fun h => .inl h.2) .inr)
      have hO := h3.out.mono (O' := fun k => vb.ownBlock = some k) (fun k _ h => h.elim (fun h => by rw [hd10] at h; cases h.1) id)
      have hX := hX0.out.only hO hcg.out
      have hxc := (hx0.out.only hO hxg.out).cell
      have hnc := (hn0.out.only hO hng.out).cell
      go_simp
      exact (hI.out _ _ _).2 ⟨s5, s6, s7, s8, s9, (.slice a4 n4 c4), s11, s12, s13, s14, rfl, by simpa [also] using f0.out, by simpa [also] using f1.out, by simpa [also] using f2.out, by simpa [also] using f3.out, by simpa [also] using f4.out, fun _ => rfl, by simpa [also] using f6.out, by simpa [also] using f8.out, by simpa [also] using f9.out, by simpa [also] using h1.out, by simpa [also] using h2.out, by simpa [also] using h3.out, by simpa [also] using g10.out, by simpa [also] using e9.out, by simp [also, hd10]⟩
    · rintro d a wx hni hwt hi
      obtain ⟨s5, s6, s7, s8, s9, s10, s11, s12, s13, s14, rfl, f0, f1, f2, f3, f4, f5, f6, f8, f9, h1, h2, h3, g10, e9, e10⟩ := (hI.out d a wx).1 hi
      clear hi
      simp [waitsFor, Region.binds] at hwt hni
      replace f0 := qh f0
      replace f1 := qh f1
      replace f2 := qh f2
      replace f3 := qh f3
      replace f4 := qh f4
      replace f5 := qh f5
      replace f6 := qh f6
      replace f8 := qh f8
      replace f9 := qh f9
      replace h1 := qh h1
      replace h2 := qh h2
      replace h3 := qh h3
      replace g10 := qh g10
      replace e9 := qh e9
      replace e10 := qh e10
      have hd10 : d 10 = false := by cases hq : d 10 with
        | false => rfl
        | true => have := e10.out hq; simp_all
      have hO3 := h3.out.mono (O' := fun k => k = cb ∨ vb.ownBlock = some k) (fun k _ h => h.elim (fun h => .inl h.2) .inr)
      have hO := h3.out.mono (O' := fun k => vb.ownBlock = some k) (fun k _ h => h.elim (fun h => by rw [hd10] at h; cases h.1) id)
      have hX := hX0.out.only hO hcg.out
      have hxc := (hx0.out.only hO hxg.out).cell
      have hnc := (hn0.out.only hO hng.out).cell
      have q0 := f5.out (by simp [hwt])
      subst q0
      have hal := Only.alloc h3.out (.cells #[.slice a4 n4 c4] 71)
      go_simp
      exact (hI.out _ _ _).2 ⟨s5, s6, s7, s8, s9, (.slice a4 n4 c4), (.slice (some ⟨wx.heap.size, 0, none⟩) 1 1), s12, s13, s14, rfl, by simpa [also] using f0.out, by simpa [also] using f1.out, by simpa [also] using f2.out, by simpa [also] using f3.out, by simpa [also] using f4.out, by simpa [also] using f5.out, fun _ => ⟨_, rfl, fun _ => (Box.new wx _ _).cell⟩, by simpa [also] using f8.out, by simpa [also] using f9.out, fun h => xalloc (h1.out (by simpa [also] using h)) _, fun h => (h2.out (by simpa [also] using h)).alloc _, by simpa [also] using hal, by simp [also, hd10], by simpa [also] using e9.out, by simp [also, hd10]⟩
    · rintro d a wx hni hwt hi
      obtain ⟨s5, s6, s7, s8, s9, s10, s11, s12, s13, s14, rfl, f0, f1, f2, f3, f4, f5, f6, f8, f9, h1, h2, h3, g10, e9, e10⟩ := (hI.out d a wx).1 hi
      clear hi
      simp [waitsFor, Region.binds] at hwt hni
      replace f0 := qh f0
      replace f1 := qh f1
      replace f2 := qh f2
      replace f3 := qh f3
      replace f4 := qh f4
      replace f5 := qh f5
      replace f6 := qh f6
      replace f8 := qh f8
      replace f9 := qh f9
      replace h1 := qh h1
      replace h2 := qh h2
      replace h3 := qh h3
      replace g10 := qh g10
      replace e9 := qh e9
      replace e10 := qh e10
      have hd10 : d 10 = false := by cases hq : d 10 with
        | false => rfl
        | true => have := e10.out hq; simp_all
      have hO3 := h3.out.mono (O' := fun k => k = cb ∨ vb.ownBlock = some k) (fun k _ h => h.elim (fun h => .inl h.2) .inr)
      have hO := h3.out.mono (O' := fun k => vb.ownBlock = some k) (fun k _ h => h.elim (fun h => by rw [hd10] at h; cases h.1) id)
      have hX := hX0.out.only hO hcg.out
      have hxc := (hx0.out.only hO hxg.out).cell
      have hnc := (hn0.out.only hO hng.out).cell
      have q0 := f4.out (by simp [hwt])
      subst q0
      obtain ⟨q, q1, hq⟩ := f6.out (by simp [hwt])
      subst q1
      have hqc := hq hni
      have hbw := h1.out hni
      have hz := hbw.size
      have hqa : m + 1 ≤ maxLen := by unfold maxLen; omega
      have hqb : (m + 1) * 24 ≤ 140737488355328 := by omega
      refine wp_append_vals wx _ _ 74 rfl B 71 i0 (.slice none 0 0) 1 24 Tryz.underlying74 hi0 hz0 hz1 hz2 rfl (by decide) s9 m xs rfl (own_keep hv0.out hbw) (some ⟨q, 0, none⟩) 1 1 [.slice a4 n4 c4] rfl (by simp) rfl (fun i hi => ⟨q, 0, rfl, by simp at hi; subst hi; exact hqc⟩) (by simp [Value.oneCell']) hqa hqb (Nat.le_trans hB hz) ?_
      intro V5 W5 o5 hg5
      have hO5 : Only (fun k => (d 10 = true ∧ k = cb) ∨ s9.ownBlock = some k) w W5 := h3.out.trans ((only_grown hg5).mono fun k _ h => .inr h)
      exact (hI.out _ _ _).2 ⟨s5, s6, s7, s8, s9, s10, (.slice (some ⟨q, 0, none⟩) 1 1), V5, s13, s14, rfl, by simpa [also] using f0.out, by simpa [also] using f1.out, by simpa [also] using f2.out, by simpa [also] using f3.out, by simpa [also] using f4.out, by simpa [also] using f5.out, fun _ => ⟨q, rfl, by simp [also]⟩, by simpa [also] using f8.out, by simpa [also] using f9.out, by simp [also], fun _ => o5, by simpa [also] using hO5, by simp [also, hd10], by simpa [also] using e9.out, by simp [also, hd10]⟩
    · rintro d a wx hni hwt hi
      obtain ⟨s5, s6, s7, s8, s9, s10, s11, s12, s13, s14, rfl, f0, f1, f2, f3, f4, f5, f6, f8, f9, h1, h2, h3, g10, e9, e10⟩ := (hI.out d a wx).1 hi
      clear hi
      simp [waitsFor, Region.binds] at hwt hni
      replace f0 := qh f0
      replace f1 := qh f1
      replace f2 := qh f2
      replace f3 := qh f3
      replace f4 := qh f4
      replace f5 := qh f5
      replace f6 := qh f6
      replace f8 := qh f8
      replace f9 := qh f9
      replace h1 := qh h1
      replace h2 := qh h2
      replace h3 := qh h3
      replace g10 := qh g10
      replace e9 := qh e9
      replace e10 := qh e10
      have hd10 : d 10 = false := by cases hq : d 10 with
        | false => rfl
        | true => have := e10.out hq; simp_all
      have hO3 := h3.out.mono (O' := fun k => k = cb ∨ vb.ownBlock = some k) (fun k _ h => h.elim (fun h => .inl h.2) .inr)
      have hO := h3.out.mono (O' := fun k => vb.ownBlock = some k) (fun k _ h => h.elim (fun h => by rw [hd10] at h; cases h.1) id)
      have hX := hX0.out.only hO hcg.out
      have hxc := (hx0.out.only hO hxg.out).cell
      have hnc := (hn0.out.only hO hng.out).cell
      have q0 := f0.out (by simp [hwt])
      subst q0
      go_simp
      exact (hI.out _ _ _).2 ⟨(.pointer (some ⟨cb, 0, none⟩)), s6, s7, s8, s9, s10, s11, s12, (.pointer (some ⟨cb, 0, none⟩)), s14, rfl, by simpa [also] using f0.out, by simpa [also] using f1.out, by simpa [also] using f2.out, by simpa [also] using f3.out, by simpa [also] using f4.out, by simpa [also] using f5.out, by simpa [also] using f6.out, fun _ => rfl, by simpa [also] using f9.out, by simpa [also] using h1.out, by simpa [also] using h2.out, by simpa [also] using h3.out, by simpa [also] using g10.out, by simp [also], by simp [also, hd10]⟩
    · rintro d a wx hni hwt hi
      obtain ⟨s5, s6, s7, s8, s9, s10, s11, s12, s13, s14, rfl, f0, f1, f2, f3, f4, f5, f6, f8, f9, h1, h2, h3, g10, e9, e10⟩ := (hI.out d a wx).1 hi
      clear hi
      simp [waitsFor, Region.binds] at hwt hni
      replace f0 := qh f0
      replace f1 := qh f1
      replace f2 := qh f2
      replace f3 := qh f3
      replace f4 := qh f4
      replace f5 := qh f5
      replace f6 := qh f6
      replace f8 := qh f8
      replace f9 := qh f9
      replace h1 := qh h1
      replace h2 := qh h2
      replace h3 := qh h3
      replace g10 := qh g10
      replace e9 := qh e9
      replace e10 := qh e10
      have hd10 : d 10 = false := by cases hq : d 10 with
        | false => rfl
        | true => have := e10.out hq; simp_all
      have hO3 := h3.out.mono (O' := fun k => k = cb ∨ vb.ownBlock = some k) (fun k _ h => h.elim (fun h => .inl h.2) .inr)
      have hO := h3.out.mono (O' := fun k => vb.ownBlock = some k) (fun k _ h => h.elim (fun h => by rw [hd10] at h; cases h.1) id)
      have hX := hX0.out.only hO hcg.out
      have hxc := (hx0.out.only hO hxg.out).cell
      have hnc := (hn0.out.only hO hng.out).cell
      have q0 := f8.out (by simp [hwt])
      subst q0
      have hd8 : d 8 = true := by simp [hwt]
      go_simp
      exact (hI.out _ _ _).2 ⟨s5, s6, s7, s8, s9, s10, s11, s12, (.pointer (some ⟨cb, 0, none⟩)), (.pointer (some ⟨cb, 2, none⟩)), rfl, by simpa [also] using f0.out, by simpa [also] using f1.out, by simpa [also] using f2.out, by simpa [also] using f3.out, by simpa [also] using f4.out, by simpa [also] using f5.out, by simpa [also] using f6.out, by simpa [also] using f8.out, fun _ => rfl, by simpa [also] using h1.out, by simpa [also] using h2.out, by simpa [also] using h3.out, by simpa [also] using g10.out, by simp [also, hd8], by simp [also, hd10]⟩
    · rintro d a wx hni hwt hi
      obtain ⟨s5, s6, s7, s8, s9, s10, s11, s12, s13, s14, rfl, f0, f1, f2, f3, f4, f5, f6, f8, f9, h1, h2, h3, g10, e9, e10⟩ := (hI.out d a wx).1 hi
      clear hi
      simp [waitsFor, Region.binds] at hwt hni
      replace f0 := qh f0
      replace f1 := qh f1
      replace f2 := qh f2
      replace f3 := qh f3
      replace f4 := qh f4
      replace f5 := qh f5
      replace f6 := qh f6
      replace f8 := qh f8
      replace f9 := qh f9
      replace h1 := qh h1
      replace h2 := qh h2
      replace h3 := qh h3
      replace g10 := qh g10
      replace e9 := qh e9
      replace e10 := qh e10
      have hO3 := h3.out.mono (O' := fun k => k = cb ∨ vb.ownBlock = some k) (fun k _ h => h.elim (fun h => .inl h.2) .inr)
      have hd7 : d 7 = true := by simp [hwt]
      have hd9 : d 9 = true := by simp [hwt]
      have hd8 := e9.out hd9
      have q0 := f9.out hd9
      subst q0
      have ho := h2.out hd7
      have hX := hX0.out.only (h3.out.mono (O' := fun k => vb.ownBlock = some k) (fun k _ h => h.elim (fun h => by have := h.1; simp_all) id)) hcg.out
      obtain ⟨p12, q12, hs12⟩ := own_slice ho
      refine wp_store_at 74 _ _ rfl cb 2 rfl 76 _ s12 hX (by show 2 < 3; omega) rfl (by kernel_rfl) (by rw [hs12]; rfl) ?_
      intro W6 hX6 ho6
      have ho6' : W6.ownsRow B 71 1 s12 (m + 1) (xs ++ [.slice a4 n4 c4]) := own_same ho fun g hg hl => ho6.same g hl (fun e => own_neG ho hX (by decide) (by rw [hg, e]))
      have hO6 : Only (fun k => (true = true ∧ k = cb) ∨ vb.ownBlock = some k) w W6 := (h3.out.mono fun k _ h => h.elim (fun h => .inl ⟨rfl, h.2⟩) .inr).trans (ho6.mono fun k _ h => .inl ⟨rfl, h⟩)
      exact (hI.out _ _ _).2 ⟨s5, s6, s7, s8, s9, s10, s11, s12, s13, (.pointer (some ⟨cb, 2, none⟩)), rfl, by simpa [also] using f0.out, by simpa [also] using f1.out, by simpa [also] using f2.out, by simpa [also] using f3.out, by simpa [also] using f4.out, by simpa [also] using f5.out, by intro _; obtain ⟨q, q1, _⟩ := f6.out (by simp [hwt]); exact ⟨q, q1, by simp [also, hd7]⟩, by simpa [also] using f8.out, by simpa [also] using f9.out, by simp [also, hd7], fun _ => ho6', by simpa [also] using hO6, fun _ => hX6, by simp [also, hd8], by simp [also, hwt, hd7, hd8, hd9]⟩
  intro d a wx hall hi
  obtain ⟨s5, s6, s7, s8, s9, s10, s11, s12, s13, s14, rfl, f0, f1, f2, f3, f4, f5, f6, f8, f9, h1, h2, h3, g10, e9, e10⟩ := (hI.out d a wx).1 hi
  clear hi hI
  simp [List.range_succ] at hall
  obtain ⟨g0, g1, g2, g3, g4, g5, g6, g7, g8, g9, ga⟩ : d 0 = true ∧ d 1 = true ∧ d 2 = true ∧ d 3 = true ∧ d 4 = true ∧ d 5 = true ∧ d 6 = true ∧ d 7 = true ∧ d 8 = true ∧ d 9 = true ∧ d 10 = true := by simp_all
  have hX := qh (g10 ga)
  have ho := qh (h2 g7)
  have hO : Hid (Only (fun k => k = cb ∨ vb.ownBlock = some k) w wx) := qh (h3.mono fun k _ h => h.elim (fun h => .inl h.2) .inr)
  have hN := hn0.out.only hO.out (fun h => h.elim (fun h => hnc0.out h) hng.out)
  have hNc := hN.cell
  have hNf := hN.free
  replace hN := qh hN
  clear f0 f1 f2 f3 f4 f5 f6 f8 f9 h1 h2 h3 g10 e9 e10 hall g0 g1 g2 g3 g4 g5 g6 g7 g8 g9 ga
  go_wp2
  go_end0
  have hs : Only (· = nb) wx (wx.setCell ⟨nb, 0, none⟩ (.slice none 0 0)) := (Only.refl _ _).setCell _ _ rfl
  have hnB' : Hid (¬ s12.ownBlock = some nb) := qh fun e => by have := (own_lt ho.out e).1; omega
  refine ⟨rfl, (hO.out.mono fun k _ h => .inr h).trans (hs.mono fun k _ h => .inl h), hN.out.set _, s12, hX.out.only hs (fun e => hnc0.out e.symm), own_same ho.out fun g hg hl => hs.same g hl fun e => hnB'.out (by rw [hg, e])⟩
end Go.Proofs.YtijkdabmegbcjaaGreatDoor
