/- The document's words (layer 1): texts. -/
import Derived.Test.YtfieagpidplmoaaWordA
namespace Go.Proofs.Ytfieagpidplmoaa
open Go.RowKit

/-- The digit of number i from the left, of 64. -/
def nib (N i : Nat) : Nat := (if i % 2 = 0 then byteAt N (31 - i / 2) / 16 else byteAt N (31 - i / 2)) % 16
def hexd (d : Nat) : UInt8 := if d < 10 then UInt8.ofNat (48 + d) else UInt8.ofNat (87 + d)
def textTo (N : Nat) : Nat → List UInt8
  | 0 => []
  | i + 1 => if textTo N i ≠ [] ∨ 0 < nib N i ∨ i = 63 then textTo N i ++ [hexd (nib N i)] else textTo N i
theorem textTo_pos (N k : Nat) (t : List UInt8) (ht : textTo N k = t) (h : t ≠ [] ∨ 0 < nib N k ∨ k = 63) : textTo N (k + 1) = t ++ [hexd (nib N k)] := by
  subst ht; exact if_pos h
theorem textTo_neg (N k : Nat) (t : List UInt8) (ht : textTo N k = t) (h : ¬ (t ≠ [] ∨ 0 < nib N k ∨ k = 63)) : textTo N (k + 1) = t := by
  subst ht; exact if_neg h
theorem textTo_len (N : Nat) : ∀ k, (textTo N k).length ≤ k
  | 0 => by simp [textTo]
  | k + 1 => by
    have := textTo_len N k
    rw [textTo]
    split <;> simp <;> omega
def fullText (N : Nat) : List UInt8 := textTo N 64
def strV (l : List UInt8) : Value := .string { data := l.toArray }

theorem str_step (t : List UInt8) (d : Nat) (h : d < 16) : Value.string ({ data := t.toArray } ++ ({ data := #[48, 49, 50, 51, 52, 53, 54, 55, 56, 57, 97, 98, 99, 100, 101, 102] } : ByteArray).extract d (d + 1)) = strV (t ++ [hexd d]) := by
  have h2 : ∀ d, d < 16 → (({ data := #[48, 49, 50, 51, 52, 53, 54, 55, 56, 57, 97, 98, 99, 100, 101, 102] } : ByteArray).extract d (d + 1)).data = #[hexd d] := by decide
  unfold strV
  congr 1
  apply ByteArray.ext
  rw [ByteArray.data_append, h2 d h]
  simp

theorem str_cat (t : List UInt8) : Value.string (({ data := #[48, 120] } : ByteArray) ++ { data := t.toArray }) = Value.string { data := ([48, 120] ++ t).toArray } := by
  have : (({ data := #[48, 120] } : ByteArray) ++ { data := t.toArray }) = { data := ([48, 120] ++ t).toArray } := by
    apply ByteArray.ext
    rw [ByteArray.data_append]
    simp
  rw [this]

theorem refText_any (N : Nat) (w : World) :
    Calls Try.prog 20 #[wordV N] w fun e w' => e = .returned (strV ([48, 120] ++ fullText N)) ∧ Below w.heap.size w w' := by
  unfold wordV
  go_enter Try.func20, Try.ntmps20
  go_wp2_with (first
    | (refine wpList_load_blk rfl 50 _ rfl w.heap.size rfl .u64 50 (wordL N) _ _ (Blk.new w _ (wordL N)) Try.underlying50 (by kernel_rfl) ?_)
    | (go_at_call 29; refine (refBytes_any _ _).mono ?_; rintro e w2 ⟨rfl, hb2⟩)
    | (refine wpList_store_blk rfl 24 _ _ rfl w2.heap.size rfl .u8 24 zs32 (bytesL N) (Blk.new' _ _ _ zs32 rfl) rfl rfl (by kernel_rfl) ?_; intro w3 h3 ho3))
  have hb3 : Below w.heap.size w w3 := ho3.below (xalloc (xtrans (xalloc (xrefl _) _) hb2) _) (by have := hb2.size; simp at this ⊢; omega) (by rintro i rfl; have := hb2.size; simp at this; omega)
  have hw2 := hb2.size
  clear ho3 hb2
  generalize w2.heap.size = b at *
  go_loopw [4, 5] (fun s i wx => ∃ k : Nat, k ≤ 64 ∧ i = .int .i64 k ∧ s = strV (textTo N k) ∧ Blk .u8 wx b 24 (bytesL N) ∧ Below w.heap.size w wx) (fun _ i _ => 64 - (intOf i).toNat)
  case atStart => exact ⟨0, by omega, rfl, rfl, h3, hb3⟩
  case round =>
    clear h3 hb3 hw2
    obtain ⟨k, hk, rfl, rfl, hB, hb⟩ := hrel
    by_cases hlt : k < 64
    · have hc := hB.cell (k / 2) (by simp [bytesL]; omega)
      rw [bytesL_get _ _ (by simp [bytesL]; omega)] at hc
      have hx := byteAt_lt N (31 - k / 2)
      have hlen := textTo_len N k
      have hn : nib N k = (if k % 2 = 0 then byteAt N (31 - k / 2) / 16 else byteAt N (31 - k / 2)) % 16 := rfl
      have hp := Lib.hid (textTo_pos N k _ rfl)
      have hm := Lib.hid (textTo_neg N k _ rfl)
      unfold strV
      generalize ht2 : textTo N (k + 1) = t2 at hp hm
      replace ht2 := Lib.hid ht2
      generalize textTo N k = t at hlen hp hm
      generalize nib N k = d at hn hp hm
      generalize byteAt N (31 - k / 2) = x at hx hc hn
      have hd16 : d < 16 := by rw [hn]; exact Nat.mod_lt _ (by decide)
      by_cases hpar : k % 2 = 0
      · rw [if_pos hpar] at hn
        have hpar2 : (k : Int) % 2 = 0 := by omega
        go_wp2
        all_goals (try simp only [beq_iff_eq, beq_eq_false_iff_ne] at *);
        all_goals ( refine ⟨⟨k + 1, by omega, rfl, ?_, hB, hb⟩, by simp [intOf]; omega⟩; rw [ht2.out])
        all_goals first
          | (have e := hp.out (by first | exact .inl (by assumption) | exact .inr (by rw [hn]; omega)); rw [e, ← hn]; first | exact str_step t d hd16 | (have h0 : t = [] := by assumption
                                                                                                                                                         rw [h0]; exact str_step [] d hd16))
          | (have e := hm.out (by rw [hn]; rintro (h | h | h) <;> first | exact h (by assumption) | omega); have h0 : t = [] := by assumption
             rw [e, h0])
      · rw [if_neg hpar] at hn
        have hpar2 : ¬ (k : Int) % 2 = 0 := by omega
        go_wp2
        all_goals (try simp only [beq_iff_eq, beq_eq_false_iff_ne] at *);
        all_goals ( refine ⟨⟨k + 1, by omega, rfl, ?_, hB, hb⟩, by simp [intOf]; omega⟩; rw [ht2.out])
        all_goals first
          | (have e := hp.out (by first | exact .inl (by assumption) | exact .inr (by rw [hn]; omega)); rw [e, ← hn]; first | exact str_step t d hd16 | (have h0 : t = [] := by assumption
                                                                                                                                                         rw [h0]; exact str_step [] d hd16))
          | (have e := hm.out (by rw [hn]; rintro (h | h | h) <;> first | exact h (by assumption) | omega); have h0 : t = [] := by assumption
             rw [e, h0])
    · have hk64 : k = 64 := by omega
      have hlen := textTo_len N k
      have hft : textTo N k = fullText N := by rw [hk64]; rfl
      rw [hft] at hlen ⊢
      generalize hT : fullText N = t at hlen
      replace hT := Lib.hid hT
      unfold strV
      have Hstr := Lib.hid (str_cat t)
      clear hft
      go_wp2
      go_ret
      rw [hT.out, show strV (48 :: 120 :: t) = _ from Hstr.out.symm]
      exact ⟨rfl, hb⟩
end Go.Proofs.Ytfieagpidplmoaa
