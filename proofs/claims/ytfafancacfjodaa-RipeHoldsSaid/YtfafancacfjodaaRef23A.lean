/- The document's primes (layer 23). -/
import Derived.Test.YtfafancacfjodaaWordA
namespace Go.Proofs.Ytfafancacfjodaa
open Go.RowKit

def trial : Nat → Nat → Nat → Bool → Option Bool
  | 0, _, _, _ => none
  | f + 1, n, d, is => if d * d ≤ n then trial f n (d + 1) (is && n % d != 0) else some is
def findP : Nat → Nat → Nat → Option Nat
  | 0, _, _ => none
  | f + 1, n, k => match trial 64 n 2 true with
    | none => none
    | some true => if k = 0 then some n else findP f (n + 1) (k - 1)
    | some false => findP f (n + 1) k
theorem trial_go {f n d : Nat} {is b : Bool} (h : trial (f + 1) n d is = some b) (hd : d * d ≤ n) : trial f n (d + 1) (is && n % d != 0) = some b := by
  unfold trial at h; rw [if_pos hd] at h; exact h
theorem trial_end {f n d : Nat} {is b : Bool} (h : trial (f + 1) n d is = some b) (hd : ¬ d * d ≤ n) : is = b := by
  unfold trial at h; rw [if_neg hd] at h; exact Option.some.inj h
theorem findP_some {f n k r : Nat} (h : findP (f + 1) n k = some r) : ∃ b, trial 64 n 2 true = some b ∧ (b = true → k = 0 → n = r) ∧ (b = true → k ≠ 0 → findP f (n + 1) (k - 1) = some r) ∧ (b = false → findP f (n + 1) k = some r) := by
  unfold findP at h
  cases ht : trial 64 n 2 true with
  | none => rw [ht] at h; simp at h
  | some b =>
    rw [ht] at h
    refine ⟨b, rfl, ?_, ?_, ?_⟩
    · rintro rfl hk; simpa [hk] using h
    · rintro rfl hk; simpa [hk] using h
    · rintro rfl; simpa using h

theorem refPrime_any (k0 r : Nat) (w : World) (h : findP 900 2 k0 = some r) (hk0 : k0 < 1000) :
    Calls Try.prog 54 #[.int .i64 k0] w fun e w' => e = .returned (.int .u64 r) ∧ w = w' := by
  go_enter Try.func54, Try.ntmps54
  have H := Lib.hid h
  clear h
  go_wp2
  go_loopw [0, 3] (fun kv nv wx => ∃ f n k : Nat, n + f ≤ 902 ∧ k < 1000 ∧ kv = .int .i64 k ∧ nv = .int .u64 n ∧ Hid (findP f n k = some r) ∧ w = wx) (fun _ nv _ => 1000 - (intOf nv).toNat)
  case atStart => exact ⟨900, 2, k0, by omega, hk0, rfl, rfl, H, rfl⟩
  case round =>
    clear H
    obtain ⟨f, n, k, hf, hk, rfl, rfl, H, rfl⟩ := hrel
    rcases f with _ | f
    · exact absurd H.out (by simp [findP])
    · obtain ⟨b, h1, h2, h3, h4⟩ := findP_some H.out
      replace h1 := Lib.hid h1
      replace h2 := Lib.hid h2
      replace h3 := Lib.hid h3
      replace h4 := Lib.hid h4
      clear H
      go_wp2
      go_loopw [4, 5] (fun iv dv wx => ∃ (g d : Nat) (is : Bool), d + g ≤ 66 ∧ 2 ≤ d ∧ iv = .bool is ∧ dv = .int .u64 d ∧ Hid (trial g n d is = some b) ∧ w = wx) (fun _ dv _ => 66 - (intOf dv).toNat)
      case atStart => exact ⟨64, 2, true, by omega, by omega, rfl, rfl, h1, rfl⟩
      case round =>
        clear h1
        obtain ⟨g, d, is, hg, hd, rfl, rfl, H1, rfl⟩ := hrel
        rcases g with _ | g
        · exact absurd H1.out (by simp [trial])
        · have hdd : d * d ≤ 66 * 66 := Nat.mul_le_mul (by omega) (by omega)
          have hdi : (d : Int) * (d : Int) = ((d * d : Nat) : Int) := by simp
          by_cases hc : d * d ≤ n
          · have H2 := Lib.hid (trial_go H1.out hc)
            clear H1
            generalize d * d = dd at hc hdd hdi
            cases is
            · go_wp2
              exact ⟨⟨g, d + 1, false, by omega, by omega, rfl, rfl, H2, trivial⟩, by simp [intOf]; omega⟩
            · go_wp2
              refine ⟨⟨g, d + 1, n % d != 0, by omega, by omega, ?_, rfl, H2, trivial⟩, by simp [intOf]; omega⟩
              congr 1
              rw [Bool.eq_iff_iff]
              simp
              omega
          · have H2 := trial_end H1.out hc
            clear H1
            generalize d * d = dd at hc hdd hdi
            subst H2
            cases is
            · replace h4 := Lib.hid (h4.out rfl)
              clear h2 h3
              go_wp2
              exact ⟨⟨f, n + 1, k, by omega, hk, rfl, rfl, h4, trivial⟩, by simp [intOf]; omega⟩
            · by_cases hk1 : k = 0
              · have hr := h2.out rfl hk1
                subst hr hk1
                clear h3 h4
                go_wp2
                go_ret
                exact ⟨rfl, rfl⟩
              · replace h3 := Lib.hid (h3.out rfl hk1)
                clear h2 h4
                have hk2 : ¬ (k : Int) = 0 := by omega
                go_wp2
                exact ⟨⟨f, n + 1, k - 1, by omega, by omega, by go_num, rfl, h3, trivial⟩, by simp [intOf]; omega⟩
end Go.Proofs.Ytfafancacfjodaa
