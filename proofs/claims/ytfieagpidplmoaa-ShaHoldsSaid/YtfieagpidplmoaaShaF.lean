/- The program's digest (layer 23): which numbers of a list divide a number. -/
import Derived.Test.YtfieagpidplmoaaIter
import Derived.Test.YtfieagpidplmoaaRowNew
namespace Go.Proofs.Ytfieagpidplmoaa
open Go.RowKit

def divs (n : Nat) (p : Nat) : Bool := n % p == 0
def natsI (l : List Nat) : List Int := l.map fun (p : Nat) => (p : Int)
theorem natsI_len (l : List Nat) : (natsI l).length = l.length := by simp [natsI]

theorem pred_any (n p b : Nat) (w : World) (hp : 0 < p) (hc : w.cell? ⟨b, 0, none⟩ = some (.int .u64 n)) :
    Calls Try.prog 47 #[.int .u64 p, .pointer (some ⟨b, 0, none⟩)] w fun e w' => e = .returned (.bool (divs n p)) ∧ w = w' := by
  have hp2 : ¬ (p : Int) = 0 := by omega
  have hd : ((n : Int) % (p : Int) == 0) = divs n p := by
    unfold divs
    rw [Bool.eq_iff_iff, beq_iff_eq, beq_iff_eq, ← Int.natCast_emod]
    omega
  replace hd := Lib.hid hd
  go_enter Try.func47, Try.ntmps47
  go_wp2
  go_ret
  exact ⟨by rw [hd.out]; rfl, rfl⟩

/-- Where the first divisor lies, or -1. -/
def idxD (n : Nat) (l : List Nat) : Int := match l.findIdx? (divs n) with
  | some i => i
  | none => -1
theorem idxD_ge (n : Nat) (l : List Nat) : decide (0 ≤ idxD n l) = l.any (divs n) := by
  unfold idxD
  cases h : l.findIdx? (divs n) with
  | none =>
    rw [List.findIdx?_eq_none_iff] at h
    have : l.any (divs n) = false := List.any_eq_false.2 fun x hx => by simp [h x hx]
    rw [this]; rfl
  | some i =>
    have : l.any (divs n) = true := by
      obtain ⟨hi, h1, -⟩ := List.findIdx?_eq_some_iff_getElem.1 h
      exact List.any_eq_true.2 ⟨_, List.getElem_mem hi, h1⟩
    rw [this]; simp
theorem indexF_any (n b : Nat) (l : List Nat) (a : Option Addr) (c : Nat) (w : World) (hl : l.length < 1000) (hp : ∀ p ∈ l, 0 < p) (hr : RowAt .u64 w a (natsI l)) (hc : w.cell? ⟨b, 0, none⟩ = some (.int .u64 n)) :
    Calls Try.prog 49 #[.slice a l.length c, .func (.func 47) #[] #[.pointer (some ⟨b, 0, none⟩)]] w fun e w' => e = .returned (.int .i64 (idxD n l)) ∧ w = w' := by
  replace hr := Lib.hid hr
  replace hp := Lib.hid hp
  go_enter Try.func49, Try.ntmps49
  go_wp2
  go_loop [8] (fun i => ∃ k : Nat, k ≤ l.length ∧ i = .int .i64 k ∧ (∀ j (h : j < l.length), j < k → divs n l[j] = false)) (fun i => l.length - (intOf i).toNat)
  case atStart => exact ⟨0, by omega, rfl, fun j _ h => by omega⟩
  case round =>
    obtain ⟨k, hk, rfl, hno⟩ := hrel
    replace hno := Lib.hid hno
    by_cases hlt : k < l.length
    · obtain ⟨b', o', rfl, hc2⟩ := hr.out k (by rw [natsI_len]; exact hlt)
      simp only [natsI, List.getElem_map] at hc2
      have hpos := hp.out l[k] (List.getElem_mem hlt)
      have hyes : divs n l[k] = true → idxD n l = k := fun h => by
        have : l.findIdx? (divs n) = some k := List.findIdx?_eq_some_iff_getElem.2 ⟨hlt, h, fun j hj => by rw [hno.out j (by omega) hj]; simp⟩
        unfold idxD; rw [this]
      have hno2 : divs n l[k] = false → ∀ j (h : j < l.length), j < k + 1 → divs n l[j] = false := fun h j hj hjk => by
        by_cases e : j = k
        · subst e; exact h
        · exact hno.out j hj (by omega)
      replace hyes := Lib.hid hyes
      replace hno2 := Lib.hid hno2
      generalize l[k] = q at hc2 hpos hyes hno2
      cases hd : divs n q
      · have hcall : Calls Try.prog 47 #[.int .u64 q, .pointer (some ⟨b, 0, none⟩)] w fun e w' => e = .returned (.bool false) ∧ w = w' := by rw [← hd]; exact pred_any n q b w hpos hc
        replace hcall := Lib.hid hcall
        go_wp2_with (go_at_call 47; refine hcall.out.mono ?_; rintro e w' ⟨rfl, rfl⟩)
        go_round
        case rel => exact ⟨k + 1, by omega, by go_num, hno2.out hd⟩
        case measure => simp [intOf]; omega
      · have hcall : Calls Try.prog 47 #[.int .u64 q, .pointer (some ⟨b, 0, none⟩)] w fun e w' => e = .returned (.bool true) ∧ w = w' := by rw [← hd]; exact pred_any n q b w hpos hc
        replace hcall := Lib.hid hcall
        go_wp2_with (go_at_call 47; refine hcall.out.mono ?_; rintro e w' ⟨rfl, rfl⟩)
        go_ret
        exact ⟨by rw [hyes.out hd]; rfl, rfl⟩
    · have hnone : idxD n l = -1 := by
        have : l.findIdx? (divs n) = none := List.findIdx?_eq_none_iff.2 fun x hx => by
          obtain ⟨j, hj, rfl⟩ := List.mem_iff_getElem.1 hx
          exact hno.out j hj (by omega)
        unfold idxD; rw [this]
      replace hnone := Lib.hid hnone
      go_wp2
      go_ret
      exact ⟨by rw [hnone.out]; rfl, rfl⟩

theorem contains_any (n b : Nat) (l : List Nat) (a : Option Addr) (c : Nat) (w : World) (hl : l.length < 1000) (hp : ∀ p ∈ l, 0 < p) (hr : RowAt .u64 w a (natsI l)) (hc : w.cell? ⟨b, 0, none⟩ = some (.int .u64 n)) :
    Calls Try.prog 46 #[.slice a l.length c, .func (.func 47) #[] #[.pointer (some ⟨b, 0, none⟩)]] w fun e w' => e = .returned (.bool (l.any (divs n))) ∧ w = w' := by
  have h := Lib.hid (indexF_any n b l a c w hl hp hr hc)
  have hg := Lib.hid (idxD_ge n l)
  generalize idxD n l = x at h hg
  clear hp hr
  go_enter Try.func46, Try.ntmps46
  go_wp2_with (go_at_call 49; refine h.out.mono ?_; rintro e w' ⟨rfl, rfl⟩)
  go_ret
  exact ⟨by rw [hg.out]; rfl, rfl⟩
end Go.Proofs.Ytfieagpidplmoaa
