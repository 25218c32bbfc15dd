/- The document's code (layer 10): bytes as text. -/
import Derived.Test.YtfafancacfjodaaRowNew
import Derived.Test.YtfafancacfjodaaGrowV
import Derived.Deep.QuietTactic
import Derived.BigQuiet
import Derived.Deep.Cut
namespace Go.Proofs.Ytfafancacfjodaa
open Go.RowKit

def hexc (d : Nat) : UInt8 := if d < 10 then UInt8.ofNat (48 + d) else UInt8.ofNat (87 + d)
def hexB (z : Int) : List UInt8 := [hexc (z / 16).toNat, hexc (z % 16).toNat]
def hexL (zs : List Int) : List UInt8 := zs.flatMap hexB
def txtV (l : List UInt8) : Value := .string { data := l.toArray }
theorem hexL_snoc (zs : List Int) (k : Nat) (hk : k < zs.length) : hexL (zs.take (k + 1)) = hexL (zs.take k) ++ hexB zs[k] := by
  unfold hexL
  rw [List.take_succ_eq_append_getElem hk, List.flatMap_append]
  simp
theorem hexL_len (zs : List Int) : (hexL zs).length = 2 * zs.length := by
  induction zs with
  | nil => rfl
  | cons z zs ih => simp only [hexL, List.flatMap_cons, List.length_append, List.length_cons] at *; rw [ih]; simp [hexB]; omega
theorem hex_step (t : List UInt8) (d : Nat) (h : d < 16) : ({ data := t.toArray } ++ ({ data := #[48, 49, 50, 51, 52, 53, 54, 55, 56, 57, 97, 98, 99, 100, 101, 102] } : ByteArray).extract d (d + 1)) = { data := (t ++ [hexc d]).toArray } := by
  have h2 : ∀ d, d < 16 → (({ data := #[48, 49, 50, 51, 52, 53, 54, 55, 56, 57, 97, 98, 99, 100, 101, 102] } : ByteArray).extract d (d + 1)).data = #[hexc d] := by decide
  apply ByteArray.ext
  rw [ByteArray.data_append, h2 d h]
  simp

theorem hex_cut (d : Nat) (hd : d < 16) (W : World) : (Instr.slice 9 (.string { data := #[48, 49, 50, 51, 52, 53, 54, 55, 56, 57, 97, 98, 99, 100, 101, 102] }) (some (.int .u8 (d : Int))) (some (.int .u8 ((d : Int) + 1))) none).run Try.prog W = .ok (.string (({ data := #[48, 49, 50, 51, 52, 53, 54, 55, 56, 57, 97, 98, 99, 100, 101, 102] } : ByteArray).extract d (d + 1))) W := by
  have h := run_slice_string (P := Try.prog) W 9 { data := #[48, 49, 50, 51, 52, 53, 54, 55, 56, 57, 97, 98, 99, 100, 101, 102] } .u8 .u8 (d : Int) ((d : Int) + 1) Try.underlying9 (by omega) (by omega) (by show (d : Int) + 1 ≤ ((16 : Nat) : Int); omega)
  rw [h]
  congr 4
set_option maxRecDepth 100000 in
theorem hex_any (zs : List Int) (a : Option Addr) (c : Nat) (w : World) (hrow : RowAt .u8 w a zs) (hz : ∀ z ∈ zs, 0 ≤ z ∧ z < 256) (hl : zs.length < 1000000) :
    Calls Try.prog 33 #[.slice a zs.length c] w fun e w' => e = .returned (txtV ([48, 120] ++ hexL zs)) ∧ Below w.heap.size w w' := by
  unfold txtV
  replace hrow := Lib.hid hrow
  go_enter Try.func33, Try.ntmps33
  go_wp2
  go_loopw [3, 4] (fun s i wx => ∃ k : Nat, k ≤ zs.length ∧ i = .int .i64 k ∧ s = txtV ([48, 120] ++ hexL (zs.take k)) ∧ Below w.heap.size w wx) (fun _ i _ => zs.length - (intOf i).toNat)
  case atStart => exact ⟨0, by omega, rfl, rfl, xrefl w⟩
  case round =>
    obtain ⟨k, hk, rfl, rfl, hb⟩ := hrel
    by_cases hlt : k < zs.length
    · have hsn := hexL_snoc zs k hlt
      obtain ⟨b, o, rfl, hc⟩ := (hrow.out.below hb) k hlt
      have hzb := hz zs[k] (List.getElem_mem hlt)
      unfold hexB at hsn
      generalize zs[k] = z at *
      obtain ⟨n, rfl⟩ : ∃ n : Nat, z = n := ⟨z.toNat, by omega⟩
      obtain ⟨x, hx⟩ : ∃ x, x = n / 16 := ⟨_, rfl⟩
      obtain ⟨y, hy⟩ : ∃ y, y = n % 16 := ⟨_, rfl⟩
      have hx16 : x < 16 := by omega
      have hy16 : y < 16 := by omega
      have e1 : ((n : Int) / 16).toNat = x := by omega
      have e2 : ((n : Int) % 16).toNat = y := by omega
      rw [e1, e2] at hsn
      unfold txtV
      replace hsn := Lib.hid hsn
      have hlen : (hexL (zs.take k)).length ≤ 2000000 := by rw [hexL_len, List.length_take]; omega
      generalize hexL (zs.take k) = t at *
      clear e1 e2
      have e1 : (n : Int) / 16 = (x : Int) := by omega
      have e2 : (n : Int) % 16 = (y : Int) := by omega
      have q1 : IntKind.u8.wrap ((x : Int) + 1) = (x : Int) + 1 := by rw [IntKind.wrap_u8]; omega
      have q2 : IntKind.u8.wrap ((y : Int) + 1) = (y : Int) + 1 := by rw [IntKind.wrap_u8]; omega
      have q7 : IntKind.u8.wrap (x : Int) = (x : Int) := by rw [IntKind.wrap_u8]; omega
      have q8 : IntKind.u8.wrap (y : Int) = (y : Int) := by rw [IntKind.wrap_u8]; omega
      have q3 : (x : Int) + 1 ≤ 16 := by omega
      have q4 : (y : Int) + 1 ≤ 16 := by omega
      have q5 : ((x : Int) + 1).toNat = x + 1 := by omega
      have q6 : ((y : Int) + 1).toNat = y + 1 := by omega
      have r1 := hex_cut x hx16
      have r2 := hex_cut y hy16
      have hk2 : (k : Int) < zs.length := by omega
      clear hx hy
      go_upto_region 5 with fail
      go_quiet (fail)
      have hst := Lib.hid (((congrArg (· ++ _) (hex_step (48 :: 120 :: t) x hx16)).trans (hex_step _ y hy16)))
      clear r1 r2 q1 q2 q3 q4 q5 q6 q7 q8 e1 e2
      go_wp2
      refine ⟨⟨k + 1, by omega, rfl, ?_, xdrewN hb nq⟩, by simp [intOf]; omega⟩
      rw [hsn.out]
      exact (congrArg Value.string hst.out).trans (by simp)
    · obtain rfl : k = zs.length := by omega
      rw [List.take_length]
      clear hlt
      generalize hH : [48, 120] ++ hexL zs = H
      replace hH := Lib.hid hH
      unfold txtV
      go_wp2
      go_ret
      exact ⟨by rw [← hH.out]; rfl, hb⟩
end Go.Proofs.Ytfafancacfjodaa
