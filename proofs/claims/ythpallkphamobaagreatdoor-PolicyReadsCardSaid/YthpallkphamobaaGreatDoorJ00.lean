/- Texts of this claim, merged; no condition. -/
import Derived.Test.YthpallkphamobaaGreatDoorRows
import Derived.WalkKit
import Derived.WalkSpells
import Derived.WalkLawsBesides
import Derived.Deep.QuietTactic
import Derived.BigQuiet
import Derived.Lib.Hide
import Derived.Deep.RegionHeld3
import Derived.Laws.EntriesVeiled
import Derived.Deep.RegionWith
import Derived.Deep.DeepFit
import Derived.Lib.Join
import Derived.Lib.TrailingZeros
import Derived.Lib.ItoaNum
set_option linter.all false
namespace Go.Proofs.YthpallkphamobaaGreatDoor
open Go.RowKit

def findI (n : Int) : List (Int × Value) → Option Value
  | [] => none
  | x :: l => if n = x.1 then some x.2 else findI n l
@[go_sem] theorem findI_nil (n : Int) : findI n [] = none := Eq.trans rfl rfl
@[go_sem] theorem findI_cons (n m : Int) (v : Value) (l : List (Int × Value)) : findI n ((m, v) :: l) = if n = m then some v else findI n l := Eq.trans rfl rfl

/-! A scope whose goto leads forward: at the jump the walk goes on behind the label. -/
def fwd (P : Program) (l : Nat) (rest : Code) (Q : Exit → Act → World → Prop) : Exit → Act → World → Prop
  | .goto l', a, w => l' = l ∧ rest.wp P (Exit.noGoto Q) a w
  | e, a, w => Q e a w
theorem wp_scope_fwd {P : Program} {c rest : Code} {Q : Exit → Act → World → Prop} {a : Act} {w : World} (l : Nat) (hf : findLabel c l = some rest) (h : c.wp P (fwd P l rest Q) a w) : (Code.scope c).wp P Q a w := by
  refine wp_scope_jumps l (fun a w => rest.wp P (Exit.noGoto Q) a w) (fun _ _ => 0) hf ?_ ?_
  · exact Code.wp_mono (fun e a w q => by cases e <;> exact q) h
  · intro a w h
    exact Code.wp_mono (fun e a w q => by cases e <;> first | exact q | exact q.elim) h
section
variable {P : Program} {l : Nat} {rest : Code} {Q : Exit → Act → World → Prop} {a : Act} {w : World}
@[go_sem] theorem fwd_normal : fwd P l rest Q .normal a w = Q .normal a w := rfl
@[go_sem] theorem fwd_exit (id : Nat) : fwd P l rest Q (.exit id) a w = Q (.exit id) a w := rfl
@[go_sem] theorem fwd_ret : fwd P l rest Q .ret a w = Q .ret a w := rfl
@[go_sem] theorem fwd_panic (ch : List PanicEntry) : fwd P l rest Q (.panic ch) a w = Q (.panic ch) a w := rfl
theorem fwd_goto (l' : Nat) : fwd P l rest Q (.goto l') a w = (l' = l ∧ rest.wp P (Exit.noGoto Q) a w) := rfl
end

/-! 'Below w.heap.size w w'', step by step. -/
theorem xrefl (w : World) : Below w.heap.size w w := Below.refl _ _
theorem xalloc {a w : World} (h : Below a.heap.size a w) (o : Obj) : Below a.heap.size a (w.alloc o) := h.alloc h.size o
theorem xdrew {a w : World} (h : Below a.heap.size a w) : Below a.heap.size a w.drew := h.drew
theorem xdrewN {a w : World} (h : Below a.heap.size a w) (n : Nat) : Below a.heap.size a (w.drewN n) := ⟨h.os, h.tape, h.output, h.size, h.block⟩
theorem xtrans {a b c : World} (h : Below a.heap.size a b) (k : Below b.heap.size b c) : Below a.heap.size a c := h.trans (k.mono h.size)

/-! Cells and marks that stay. -/
theorem cell_lt {w : World} {a : Addr} {v : Value} (h : w.cell? a = some v) : a.block < w.heap.size := World.block_lt_of_cell? w a h
theorem cbel {w w' : World} {a : Addr} {v : Value} (hb : Below w.heap.size w w') (h : w.cell? a = some v) : w'.cell? a = some v := (hb.cell (cell_lt h)).trans h
end Go.Proofs.YthpallkphamobaaGreatDoor
namespace Go.Proofs.YthpallkphamobaaGreatDoor

def natI (l : List Nat) : List Int := l.map fun n : Nat => (n : Int)
theorem natI_len (l : List Nat) : (natI l).length = l.length := by simp [natI]
theorem natI_app (a b : List Nat) : natI (a ++ b) = natI a ++ natI b := by simp [natI]
theorem natI_inj {a b : List Nat} : natI a = natI b ↔ a = b := by
  constructor
  · intro h
    have := congrArg (List.map Int.toNat) h
    simpa [natI, Function.comp_def] using this
  · rintro rfl; rfl

end Go.Proofs.YthpallkphamobaaGreatDoor
namespace Go.Proofs.YthpallkphamobaaGreatDoor
open Go.RowKit

def hexc (d : Nat) : UInt8 := if d < 10 then UInt8.ofNat (48 + d) else UInt8.ofNat (87 + d)
def hexB (z : Int) : List UInt8 := [hexc (z / 16).toNat, hexc (z % 16).toNat]
def hexL (zs : List Int) : List UInt8 := zs.flatMap hexB
theorem hexL_len (zs : List Int) : (hexL zs).length = 2 * zs.length := by
  induction zs with
  | nil => rfl
  | cons z zs ih => simp only [hexL, List.flatMap_cons, List.length_append, List.length_cons] at *; rw [ih]; simp [hexB]; omega
theorem hex_step (t : List UInt8) (d : Nat) (h : d < 16) : ({ data := t.toArray } ++ ({ data := #[48, 49, 50, 51, 52, 53, 54, 55, 56, 57, 97, 98, 99, 100, 101, 102] } : ByteArray).extract d (d + 1)) = { data := (t ++ [hexc d]).toArray } := by
  have h2 : ∀ d, d < 16 → (({ data := #[48, 49, 50, 51, 52, 53, 54, 55, 56, 57, 97, 98, 99, 100, 101, 102] } : ByteArray).extract d (d + 1)).data = #[hexc d] := by decide
  apply ByteArray.ext
  rw [ByteArray.data_append, h2 d h]
  simp
end Go.Proofs.YthpallkphamobaaGreatDoor
namespace Go.Proofs.YthpallkphamobaaGreatDoor

/-! Bytes as text. -/
def hexN (l : List Nat) : List UInt8 := [48, 120] ++ hexL (natI l)
def digO (c : UInt8) : Option Nat := (List.range 16).find? fun d => hexc d == c
def unhexP : List UInt8 → Option (List Nat)
  | [] => some []
  | [_] => none
  | a :: b :: l => match digO a, digO b, unhexP l with
    | some x, some y, some r => some ((16 * x + y) :: r)
    | _, _, _ => none
def unhexN : List UInt8 → Option (List Nat)
  | 48 :: 120 :: l => unhexP l
  | _ => none
theorem dig_hex : ∀ d, d < 16 → digO (hexc d) = some d := by decide
theorem dig_some {c : UInt8} {d : Nat} (h : digO c = some d) : d < 16 ∧ hexc d = c := by
  unfold digO at h
  have h1 := List.mem_of_find?_eq_some h
  have h2 := List.find?_some h
  exact ⟨List.mem_range.1 h1, by simpa using h2⟩
theorem hexL_nil : hexL (natI []) = [] := rfl
theorem hexL_cons (n : Nat) (l : List Nat) : hexL (natI (n :: l)) = hexc (n / 16) :: hexc (n % 16) :: hexL (natI l) := by
  unfold hexL natI
  rw [List.map_cons, List.flatMap_cons]
  have e1 : ((n : Int) / 16).toNat = n / 16 := by omega
  have e2 : ((n : Int) % 16).toNat = n % 16 := by omega
  simp [hexB, e1, e2]
theorem hexL_app (l m : List Nat) : hexL (natI (l ++ m)) = hexL (natI l) ++ hexL (natI m) := by unfold hexL natI; simp
theorem unhex_hex : ∀ l : List Nat, (∀ b ∈ l, b < 256) → unhexP (hexL (natI l)) = some l
  | [], _ => rfl
  | n :: l, h => by
    have hn := h n (by simp)
    rw [hexL_cons, unhexP, dig_hex _ (by omega), dig_hex _ (by omega), unhex_hex l fun b hb => h b (List.mem_cons_of_mem _ hb)]
    simp; omega
theorem unhexN_hex (l : List Nat) (h : ∀ b ∈ l, b < 256) : unhexN (hexN l) = some l := unhex_hex l h
theorem unhexP_some : ∀ {s : List UInt8} {l : List Nat}, unhexP s = some l → hexL (natI l) = s ∧ (∀ b ∈ l, b < 256) ∧ s.length = 2 * l.length
  | [], l, h => by cases h; exact ⟨rfl, by simp, rfl⟩
  | [_], l, h => by cases h
  | a :: b :: s, l, h => by
    rw [unhexP] at h
    cases h1 : digO a with
    | none => rw [h1] at h; cases h
    | some x => cases h2 : digO b with
      | none => rw [h1, h2] at h; cases h
      | some y => cases h3 : unhexP s with
        | none => rw [h1, h2, h3] at h; cases h
        | some r =>
          rw [h1, h2, h3] at h
          cases h
          obtain ⟨i1, i2, i3⟩ := unhexP_some h3
          obtain ⟨d1, e1⟩ := dig_some h1
          obtain ⟨d2, e2⟩ := dig_some h2
          refine ⟨?_, ?_, by simp [i3]; omega⟩
          · rw [hexL_cons, show (16 * x + y) / 16 = x by omega, show (16 * x + y) % 16 = y by omega, e1, e2, i1]
          · intro c hc
            rcases List.mem_cons.1 hc with rfl | hc
            · omega
            · exact i2 c hc
theorem unhexN_some {s : List UInt8} {l : List Nat} (h : unhexN s = some l) : hexN l = s ∧ ∀ b ∈ l, b < 256 := by
  unfold unhexN at h
  split at h
  · obtain ⟨h1, h2, -⟩ := unhexP_some h
    exact ⟨by unfold hexN; rw [h1]; rfl, h2⟩
  · cases h

/-! Text and words. -/
def splS (c : UInt8) : List UInt8 → List (List UInt8)
  | [] => [[]]
  | x :: l => if x = c then [] :: splS c l else match splS c l with
    | [] => [[x]]
    | w :: r => (x :: w) :: r
theorem spl_ne (c : UInt8) : ∀ l, splS c l ≠ []
  | [] => by simp [splS]
  | x :: l => by
    unfold splS
    split
    · simp
    · split <;> simp
theorem join_cons2 (w x : List UInt8) (r : List (List UInt8)) (s : List UInt8) : Lib.join (w :: x :: r) s = w ++ s ++ Lib.join (x :: r) s := by
  rw [Lib.join_cons, Lib.join_cons]; simp [Lib.joinTail]
theorem join_spl (c : UInt8) : ∀ l, Lib.join (splS c l) [c] = l
  | [] => by rw [splS, Lib.join_one]
  | x :: l => by
    have ih := join_spl c l
    unfold splS
    split
    · rename_i h
      subst h
      cases h2 : splS x l with
      | nil => exact absurd h2 (spl_ne x l)
      | cons w r => rw [h2] at ih; rw [join_cons2, ih]; rfl
    · cases h2 : splS c l with
      | nil => exact absurd h2 (spl_ne c l)
      | cons w r => rw [h2] at ih; dsimp only; rw [Lib.join_cons] at ih ⊢; rw [← ih]; rfl
theorem spl_word (c : UInt8) : ∀ w : List UInt8, c ∉ w → splS c w = [w]
  | [], _ => rfl
  | x :: w, h => by
    rw [List.mem_cons, not_or] at h
    rw [splS, if_neg fun e => h.1 e.symm, spl_word c w h.2]
theorem spl_more (c : UInt8) (l : List UInt8) : ∀ w : List UInt8, c ∉ w → splS c (w ++ c :: l) = w :: splS c l
  | [], _ => by show splS c (c :: l) = _; rw [splS, if_pos rfl]
  | x :: w, h => by
    rw [List.mem_cons, not_or] at h
    rw [List.cons_append, splS, if_neg fun e => h.1 e.symm, spl_more c l w h.2]
theorem spl_join (c : UInt8) : ∀ ws : List (List UInt8), ws ≠ [] → (∀ w ∈ ws, c ∉ w) → splS c (Lib.join ws [c]) = ws
  | [], h, _ => absurd rfl h
  | [w], _, h => by rw [Lib.join_one, spl_word c w (h w (by simp))]
  | w :: x :: r, _, h => by
    rw [join_cons2, List.append_assoc, List.singleton_append, spl_more c _ w (h w (by simp)), spl_join c (x :: r) (by simp) fun y hy => h y (List.mem_cons_of_mem _ hy)]
theorem hexc_space : ∀ d, d < 16 → hexc d ≠ 32 := by decide
theorem hexL_space : ∀ l : List Nat, (∀ b ∈ l, b < 256) → (32 : UInt8) ∉ hexL (natI l)
  | [], _ => by simp [hexL, natI]
  | n :: l, h => by
    have hn := h n (by simp)
    rw [hexL_cons]
    have h1 := hexc_space (n / 16) (by omega)
    have h2 := hexc_space (n % 16) (by omega)
    have h3 := hexL_space l fun b hb => h b (List.mem_cons_of_mem _ hb)
    simp only [List.mem_cons, not_or]
    exact ⟨Ne.symm h1, Ne.symm h2, h3⟩
theorem hexN_space (l : List Nat) (h : ∀ b ∈ l, b < 256) : (32 : UInt8) ∉ hexN l := by
  unfold hexN
  have := hexL_space l h
  simpa using this
theorem hexN_len (l : List Nat) : (hexN l).length = 2 + 2 * l.length := by unfold hexN; rw [List.length_append, hexL_len, natI_len]; rfl
end Go.Proofs.YthpallkphamobaaGreatDoor
namespace Go.Proofs.YthpallkphamobaaGreatDoor
open Go.RowKit

/-- A number of 32 bits, as Go's uint32 holds it. -/
def iv32 (x : BitVec 32) : Int := x.toNat
def iv64 (x : BitVec 64) : Int := x.toNat
theorem iv64_bd (x : BitVec 64) : 0 ≤ iv64 x ∧ iv64 x < 18446744073709551616 := by unfold iv64; have := x.isLt; omega
theorem iv32_inj {x y : BitVec 32} : iv32 x = iv32 y ↔ x = y := by unfold iv32; rw [BitVec.toNat_eq]; omega
theorem iv64_inj {x y : BitVec 64} : iv64 x = iv64 y ↔ x = y := by unfold iv64; rw [BitVec.toNat_eq]; omega
theorem ofInt32 (x : BitVec 32) : BitVec.ofInt 32 (x.toNat : Int) = x := by rw [BitVec.ofInt_natCast]; simp
theorem ofInt64 (x : BitVec 64) : BitVec.ofInt 64 (x.toNat : Int) = x := by rw [BitVec.ofInt_natCast]; simp
theorem wrap32_nat (n : Nat) : IntKind.u32.wrap (n : Int) = iv32 (BitVec.ofNat 32 n) := by
  simp [IntKind.wrap, IntKind.bits, IntKind.signed, iv32]
theorem wrap64_nat (n : Nat) : IntKind.u64.wrap (n : Int) = iv64 (BitVec.ofNat 64 n) := by
  simp [IntKind.wrap, IntKind.bits, IntKind.signed, iv64]
/-! The operations, behind names. -/
def add32 (a b : BitVec 32) : BitVec 32 := a + b
def sub32 (a b : BitVec 32) : BitVec 32 := a - b
def and32 (a b : BitVec 32) : BitVec 32 := a &&& b
def or32 (a b : BitVec 32) : BitVec 32 := a ||| b
def xor32 (a b : BitVec 32) : BitVec 32 := a ^^^ b
def not32 (a : BitVec 32) : BitVec 32 := ~~~a
def shl32 (a : BitVec 32) (n : Nat) : BitVec 32 := a <<< n
def shr32 (a : BitVec 32) (n : Nat) : BitVec 32 := a >>> n

section
variable (t : TypeId) (a b : BitVec 32)
@[go_sem high] theorem op_add32 : binOp .add t (.int .u32 (iv32 a)) (.int .u32 (iv32 b)) = pure (.int .u32 (iv32 (add32 a b))) := by
  simp only [binOp_add, Op.intArith, iv32]
  rw [show ((a.toNat : Int) + (b.toNat : Int)) = ((a.toNat + b.toNat : Nat) : Int) by omega, wrap32_nat]
  simp [iv32, add32]
@[go_sem high] theorem op_sub32 : binOp .sub t (.int .u32 (iv32 a)) (.int .u32 (iv32 b)) = pure (.int .u32 (iv32 (sub32 a b))) := by
  simp only [binOp_sub, Op.intArith, iv32]
  have ha := a.isLt
  have hb := b.isLt
  congr 2
  simp only [IntKind.wrap, IntKind.bits, IntKind.signed, sub32, BitVec.toNat_sub]
  simp
  omega
@[go_sem high] theorem op_and32 : binOp .and t (.int .u32 (iv32 a)) (.int .u32 (iv32 b)) = pure (.int .u32 (iv32 (and32 a b))) := by
  simp only [binOp_and, intBits_and, bits, iv32, IntKind.bits, ofInt32, wrap32_nat]
  rw [BitVec.ofNat_toNat, BitVec.setWidth_eq]; rfl
@[go_sem high] theorem op_or32 : binOp .or t (.int .u32 (iv32 a)) (.int .u32 (iv32 b)) = pure (.int .u32 (iv32 (or32 a b))) := by
  simp only [binOp_or, intBits_or, bits, iv32, IntKind.bits, ofInt32, wrap32_nat]
  rw [BitVec.ofNat_toNat, BitVec.setWidth_eq]; rfl
@[go_sem high] theorem op_xor32 : binOp .xor t (.int .u32 (iv32 a)) (.int .u32 (iv32 b)) = pure (.int .u32 (iv32 (xor32 a b))) := by
  simp only [binOp_xor, intBits_xor, bits, iv32, IntKind.bits, ofInt32, wrap32_nat]
  rw [BitVec.ofNat_toNat, BitVec.setWidth_eq]; rfl
@[go_sem high] theorem op_not32 : Op.unary .xor (.int .u32 (iv32 a)) = pure (.int .u32 (iv32 (not32 a))) := by
  rw [unary_xor]
  simp only [IntKind.signed, Bool.false_eq_true, if_false, intBits_xor, bits, iv32, IntKind.bits, ofInt32, wrap32_nat]
  rw [BitVec.ofNat_toNat, BitVec.setWidth_eq, show (BitVec.ofInt 32 IntKind.u32.max) = BitVec.allOnes 32 by rfl]
  exact congrArg (fun v : BitVec 32 => (pure (Value.int .u32 (v.toNat : Int)) : Sem Value)) BitVec.allOnes_xor
@[go_sem high] theorem op_shl32 (yk : IntKind) (y : Int) (h0 : 0 ≤ y) (h : y < 32) : binOp .shl t (.int .u32 (iv32 a)) (.int yk y) = pure (.int .u32 (iv32 (shl32 a y.toNat))) := by
  obtain ⟨n, rfl⟩ := Int.eq_ofNat_of_zero_le h0
  rw [binOp_shl, shift_shl_u32 _ _ _ (by omega) (by omega), Int.toNat_natCast]
  simp only [iv32, shl32]
  rw [show ((a.toNat : Int) * 2 ^ n) = ((a.toNat * 2 ^ n : Nat) : Int) by simp, wrap32_nat]
  simp [iv32, Nat.shiftLeft_eq]
@[go_sem high] theorem op_shr32 (yk : IntKind) (y : Int) (h0 : 0 ≤ y) (h : y < 32) : binOp .shr t (.int .u32 (iv32 a)) (.int yk y) = pure (.int .u32 (iv32 (shr32 a y.toNat))) := by
  obtain ⟨n, rfl⟩ := Int.eq_ofNat_of_zero_le h0
  rw [binOp_shr, shift_shr_u32 _ _ _ (by omega) (by omega), Int.toNat_natCast]
  simp only [iv32, shr32, BitVec.toNat_ushiftRight, Nat.shiftRight_eq_div_pow]
  simp
@[go_sem high] theorem op_eql32 : binOp .eql t (.int .u32 (iv32 a)) (.int .u32 (iv32 b)) = pure (.bool (a == b)) := by
  rw [binOp_eql]
  have : (iv32 a == iv32 b) = (a == b) := by rw [Bool.eq_iff_iff, beq_iff_eq, beq_iff_eq, iv32_inj]
  rw [this]
end

end Go.Proofs.YthpallkphamobaaGreatDoor
namespace Go.Proofs.YthpallkphamobaaGreatDoor
open Go.RowKit

def or64 (a b : BitVec 64) : BitVec 64 := a ||| b
def and64 (a b : BitVec 64) : BitVec 64 := a &&& b
def andn64 (a b : BitVec 64) : BitVec 64 := a &&& ~~~b
def shr64 (a : BitVec 64) (n : Nat) : BitVec 64 := a >>> n
def dec64 (a : BitVec 64) : BitVec 64 := a - 1
def bit64 (n : Nat) : BitVec 64 := 1#64 <<< n
section
variable (t : TypeId) (a b : BitVec 64)
@[go_sem high] theorem op_and64 : binOp .and t (.int .u64 (iv64 a)) (.int .u64 (iv64 b)) = pure (.int .u64 (iv64 (and64 a b))) := by
  simp only [binOp_and, intBits_and, bits, iv64, IntKind.bits, ofInt64, wrap64_nat]
  rw [BitVec.ofNat_toNat, BitVec.setWidth_eq]; rfl
@[go_sem high] theorem op_or64 : binOp .or t (.int .u64 (iv64 a)) (.int .u64 (iv64 b)) = pure (.int .u64 (iv64 (or64 a b))) := by
  simp only [binOp_or, intBits_or, bits, iv64, IntKind.bits, ofInt64, wrap64_nat]
  rw [BitVec.ofNat_toNat, BitVec.setWidth_eq]; rfl
@[go_sem high] theorem op_andn64 : binOp .andNot t (.int .u64 (iv64 a)) (.int .u64 (iv64 b)) = pure (.int .u64 (iv64 (andn64 a b))) := by
  simp only [binOp_andNot, intBits_andNot, bits, iv64, IntKind.bits, ofInt64, wrap64_nat]
  rw [BitVec.ofNat_toNat, BitVec.setWidth_eq]; rfl
@[go_sem high] theorem op_dec64 : binOp .sub t (.int .u64 (iv64 a)) (.int .u64 1) = pure (.int .u64 (iv64 (dec64 a))) := by
  simp only [binOp_sub, Op.intArith, iv64]
  have ha := a.isLt
  congr 2
  simp only [IntKind.wrap, IntKind.bits, IntKind.signed, dec64, BitVec.toNat_sub]
  simp
  omega
@[go_sem high] theorem op_bit64 (yk : IntKind) (y : Int) (h0 : 0 ≤ y) (h : y < 64) : binOp .shl t (.int .u64 1) (.int yk y) = pure (.int .u64 (iv64 (bit64 y.toNat))) := by
  obtain ⟨n, rfl⟩ := Int.eq_ofNat_of_zero_le h0
  rw [binOp_shl, shift_shl_u64 _ _ _ (by omega) (by omega), Int.toNat_natCast]
  rw [show ((1 : Int) * 2 ^ n) = ((2 ^ n : Nat) : Int) by simp, wrap64_nat]
  simp only [iv64, bit64, BitVec.toNat_shiftLeft, BitVec.toNat_ofNat, Nat.shiftLeft_eq]
  simp
@[go_sem high] theorem op_shr64 (yk : IntKind) (y : Int) (h0 : 0 ≤ y) (h : y < 64) : binOp .shr t (.int .u64 (iv64 a)) (.int yk y) = pure (.int .u64 (iv64 (shr64 a y.toNat))) := by
  obtain ⟨n, rfl⟩ := Int.eq_ofNat_of_zero_le h0
  rw [binOp_shr, shift_shr_u64 _ _ _ (by omega) (by omega), Int.toNat_natCast]
  simp only [iv64, shr64, BitVec.toNat_ushiftRight, Nat.shiftRight_eq_div_pow]
  simp
@[go_sem high] theorem op_eql64 : binOp .eql t (.int .u64 (iv64 a)) (.int .u64 (iv64 b)) = pure (.bool (a == b)) := by
  rw [binOp_eql]
  have : (iv64 a == iv64 b) = (a == b) := by rw [Bool.eq_iff_iff, beq_iff_eq, beq_iff_eq, iv64_inj]
  rw [this]
@[go_sem high] theorem op_eqz64 : binOp .eql t (.int .u64 (iv64 a)) (.int .u64 0) = pure (.bool (a == 0)) := op_eql64 t a 0
@[go_sem high] theorem op_nez64 : binOp .neq t (.int .u64 (iv64 a)) (.int .u64 0) = pure (.bool (!(a == 0))) := by
  rw [binOp_neq]
  have : (iv64 a == 0) = (a == 0) := by
    have h := @iv64_inj a 0
    rw [Bool.eq_iff_iff, beq_iff_eq, beq_iff_eq, ← h]; rfl
  show pure (Value.bool (!(iv64 a == 0))) = _
  rw [this]
end

/-! Principals. -/
def hasB (a : BitVec 64) (k : Nat) : Bool := a.getLsbD k
theorem has_mod (a : BitVec 64) (k : Nat) : (iv64 (shr64 a k) % 2 == 1) = hasB a k := by
  have h : (shr64 a k).toNat = a.toNat / 2 ^ k := by simp [shr64, Nat.shiftRight_eq_div_pow]
  have h2 : hasB a k = a.toNat.testBit k := rfl
  have h3 : a.toNat.testBit k = decide (a.toNat / 2 ^ k % 2 = 1) := Nat.testBit_eq_decide_div_mod_eq
  rw [h2, h3]
  unfold iv64
  rw [h, Bool.eq_iff_iff, beq_iff_eq, decide_eq_true_eq]
  omega
def memL (a : BitVec 64) : List Nat := (List.range 64).filter (hasB a)
theorem mem_lt {a : BitVec 64} {k : Nat} (h : k ∈ memL a) : k < 64 := List.mem_range.1 (List.mem_filter.1 h).1
theorem mem_len (a : BitVec 64) : (memL a).length ≤ 64 := by
  have := List.length_filter_le (hasB a) (List.range 64)
  rw [List.length_range] at this
  exact this
theorem filter_first (k0 : Nat) (p q : Nat → Bool) (h1 : ∀ j < k0, p j = false) (h2 : p k0 = true) (h3 : q k0 = false) (h4 : ∀ j < k0, q j = false) : ∀ n, k0 < n → (∀ j, k0 < j → j < n → p j = q j) → (List.range n).filter p = k0 :: (List.range n).filter q
  | 0, hk, _ => by omega
  | n + 1, hk, h5 => by
    rw [List.range_succ, List.filter_append, List.filter_append]
    by_cases e : k0 = n
    · subst e
      have e1 : (List.range k0).filter p = [] := List.filter_eq_nil_iff.2 fun j hj => by rw [h1 j (List.mem_range.1 hj)]; decide
      have e2 : (List.range k0).filter q = [] := List.filter_eq_nil_iff.2 fun j hj => by rw [h4 j (List.mem_range.1 hj)]; decide
      rw [e1, e2]
      simp [h2, h3]
    · rw [filter_first k0 p q h1 h2 h3 h4 n (by omega) (fun j a b => h5 j a (by omega))]
      have := h5 n (by omega) (by omega)
      simp [List.filter_cons, this]
/-- The next one: the lowest bit, and what is left. -/
def ctzB (a : BitVec 64) : Nat := Lib.ctz 64 a.toNat
def restB (a : BitVec 64) : BitVec 64 := and64 a (dec64 a)
theorem low_split (a : BitVec 64) (h : a ≠ 0) : ∃ m, a.toNat = 2 ^ ctzB a * (2 * m + 1) ∧ ctzB a < 64 := by
  have h0 : a.toNat ≠ 0 := fun e => h (BitVec.eq_of_toNat_eq (by simpa using e))
  obtain ⟨m, hm, hk⟩ := Lib.ctzFrom_spec 64 a.toNat (by omega) (by simpa using a.isLt)
  have e : ctzB a = Lib.ctzFrom 64 a.toNat := by simp [ctzB, Lib.ctz, h0]
  rw [e]
  exact ⟨m, hm, hk⟩
theorem mem_step (a : BitVec 64) (h : a ≠ 0) : memL a = ctzB a :: memL (restB a) := by
  obtain ⟨m, hm, hk⟩ := low_split a h
  generalize ctzB a = k at hm hk
  have hp : 0 < 2 ^ k := Nat.two_pow_pos k
  have hbit : ∀ j, a.toNat.testBit j = if j < k then false else (2 * m + 1).testBit (j - k) := fun j => by
    have := Nat.testBit_two_pow_mul_add (2 * m + 1) hp j
    rw [Nat.add_zero] at this
    rw [hm, this]
    simp
  have hd : (dec64 a).toNat = 2 ^ k * (2 * m) + (2 ^ k - 1) := by
    have h1 : 1 ≤ a.toNat := by rw [hm]; exact Nat.mul_pos hp (by omega)
    have : (dec64 a).toNat = a.toNat - 1 := by
      unfold dec64
      rw [BitVec.toNat_sub_of_le (by rw [BitVec.le_def]; simpa using h1)]
      simp
    rw [this, hm, Nat.mul_add, Nat.mul_one]
    omega
  have hbd : ∀ j, (dec64 a).toNat.testBit j = if j < k then (2 ^ k - 1).testBit j else (2 * m).testBit (j - k) := fun j => by
    rw [hd]
    exact Nat.testBit_two_pow_mul_add (2 * m) (by omega) j
  have hr : ∀ j, hasB (restB a) j = (hasB a j && (dec64 a).toNat.testBit j) := fun j => by
    unfold hasB restB and64
    rw [BitVec.getLsbD_and]; rfl
  have ha : ∀ j, hasB a j = a.toNat.testBit j := fun _ => rfl
  refine filter_first k (hasB a) (hasB (restB a)) (fun j hj => ?_) ?_ ?_ (fun j hj => ?_) 64 hk (fun j hj h64 => ?_)
  · rw [ha, hbit, if_pos hj]
  · rw [ha, hbit, if_neg (by omega), Nat.sub_self, Nat.testBit_zero]; simp
  · rw [hr, hbd, if_neg (by omega), Nat.sub_self, Nat.testBit_zero]; simp
  · rw [hr, ha, hbit, if_pos hj]; rfl
  · rw [hr, ha, hbit, hbd, if_neg (by omega), if_neg (by omega)]
    obtain ⟨d, hd⟩ : ∃ d, j - k = d + 1 := ⟨j - k - 1, by omega⟩
    rw [hd, Nat.testBit_succ, Nat.testBit_succ, show (2 * m + 1) / 2 = m by omega, show (2 * m) / 2 = m by omega, Bool.and_self]
theorem mem_zero : memL 0 = [] := by decide
theorem mem_nil {a : BitVec 64} (h : memL a = []) : a = 0 := by
  by_cases e : a = 0
  · exact e
  · rw [mem_step a e] at h; cases h
/-- What is left behind i of them. -/
def leftB (a : BitVec 64) : Nat → BitVec 64
  | 0 => a
  | i + 1 => restB (leftB a i)
theorem left_mem (a : BitVec 64) : ∀ i, i ≤ (memL a).length → memL (leftB a i) = (memL a).drop i
  | 0, _ => rfl
  | i + 1, h => by
    have ih := left_mem a i (by omega)
    have hne : leftB a i ≠ 0 := fun e => by
      rw [e, mem_zero] at ih
      have := congrArg List.length ih
      simp at this
      omega
    rw [mem_step _ hne] at ih
    show memL (restB (leftB a i)) = _
    have := congrArg List.tail ih
    simpa using this
theorem left_get (a : BitVec 64) (i : Nat) (h : i < (memL a).length) : leftB a i ≠ 0 ∧ ctzB (leftB a i) = (memL a)[i] := by
  have ih := left_mem a i (by omega)
  have hne : leftB a i ≠ 0 := fun e => by
    rw [e, mem_zero] at ih
    have := congrArg List.length ih
    simp at this
    omega
  refine ⟨hne, ?_⟩
  rw [mem_step _ hne] at ih
  have := congrArg (·[0]?) ih
  simpa [h] using this
theorem left_end (a : BitVec 64) : leftB a (memL a).length = 0 := mem_nil (by rw [left_mem a _ (Nat.le_refl _), List.drop_length])

/-! Texts. -/
def textL (a : BitVec 64) : List UInt8 := if memL a = [] then [45] else Lib.join ((memL a).map Lib.decDigits) [44]
theorem dec_lo (k : Nat) (h : k < 10) : Lib.decDigits k = [UInt8.ofNat (48 + k)] := by rw [Lib.decDigits, dif_pos h]
theorem dec_hi (k : Nat) (h : 10 ≤ k) (h2 : k < 100) : Lib.decDigits k = [UInt8.ofNat (48 + k / 10), UInt8.ofNat (48 + k % 10)] := by
  rw [Lib.decDigits, dif_neg (by omega), dec_lo (k / 10) (by omega)]; rfl
theorem u8_nat (k : Nat) (h : k < 100) : (UInt8.ofNat (48 + k)).toNat = 48 + k := by
  rw [UInt8.toNat_ofNat']; omega
abbrev PSt := Option (BitVec 64 × Nat)
def pStep (s : PSt) (c : UInt8) : PSt := s.bind fun (a, n) =>
  if c.toNat = 44 then (if 63 < n then none else some (or64 a (bit64 n), 0)) else if 48 ≤ c.toNat ∧ c.toNat ≤ 57 ∧ n < 64 then some (a, 10 * n + (c.toNat - 48)) else none
def pRun (s : PSt) (l : List UInt8) : PSt := l.foldl pStep s
abbrev RSt := Option (BitVec 64 × Nat × Nat)
def rStep (s : RSt) (c : UInt8) : RSt := s.bind fun (a, n, m) =>
  if c.toNat = 44 then (if m = 0 ∨ 63 < n then none else some (or64 a (bit64 n), 0, 0)) else if c.toNat < 48 ∨ 57 < c.toNat ∨ m = 2 then none else some (a, 10 * n + (c.toNat - 48), m + 1)
def rRun (s : RSt) (l : List UInt8) : RSt := l.foldl rStep s
theorem pRun_none (l : List UInt8) : pRun none l = none := by induction l with | nil => rfl | cons c l ih => exact ih
theorem rRun_none (l : List UInt8) : rRun none l = none := by induction l with | nil => rfl | cons c l ih => exact ih
theorem pRun_app (s : PSt) (l l' : List UInt8) : pRun s (l ++ l') = pRun (pRun s l) l' := List.foldl_append
theorem rRun_app (s : RSt) (l l' : List UInt8) : rRun s (l ++ l') = rRun (rRun s l) l' := List.foldl_append
theorem pRun_num (a : BitVec 64) (k : Nat) (h : k < 64) : pRun (some (a, 0)) (Lib.decDigits k ++ [44]) = some (or64 a (bit64 k), 0) := by
  have e44 : (44 : UInt8).toNat = 44 := rfl
  by_cases hk : k < 10
  · rw [dec_lo k hk]
    show pStep (pStep (some (a, 0)) (UInt8.ofNat (48 + k))) 44 = _
    have e1 : pStep (some (a, 0)) (UInt8.ofNat (48 + k)) = some (a, k) := by
      simp only [pStep, Option.bind_some, u8_nat k (by omega)]
      rw [if_neg (by omega), if_pos (by omega)]; congr 2; omega
    rw [e1]
    simp only [pStep, Option.bind_some, e44]
    rw [if_pos trivial, if_neg (by omega)]
  · rw [dec_hi k (by omega) (by omega)]
    show pStep (pStep (pStep (some (a, 0)) (UInt8.ofNat (48 + k / 10))) (UInt8.ofNat (48 + k % 10))) 44 = _
    have e1 : pStep (some (a, 0)) (UInt8.ofNat (48 + k / 10)) = some (a, k / 10) := by
      simp only [pStep, Option.bind_some, u8_nat (k / 10) (by omega)]
      rw [if_neg (by omega), if_pos (by omega)]; congr 2; omega
    have e2 : pStep (some (a, k / 10)) (UInt8.ofNat (48 + k % 10)) = some (a, k) := by
      simp only [pStep, Option.bind_some, u8_nat (k % 10) (by omega)]
      rw [if_neg (by omega), if_pos (by omega)]; congr 2; omega
    rw [e1, e2]
    simp only [pStep, Option.bind_some, e44]
    rw [if_pos trivial, if_neg (by omega)]
theorem rRun_num (a : BitVec 64) (k : Nat) (h : k < 64) : rRun (some (a, 0, 0)) (Lib.decDigits k ++ [44]) = some (or64 a (bit64 k), 0, 0) := by
  have e44 : (44 : UInt8).toNat = 44 := rfl
  by_cases hk : k < 10
  · rw [dec_lo k hk]
    show rStep (rStep (some (a, 0, 0)) (UInt8.ofNat (48 + k))) 44 = _
    have e1 : rStep (some (a, 0, 0)) (UInt8.ofNat (48 + k)) = some (a, k, 1) := by
      simp only [rStep, Option.bind_some, u8_nat k (by omega)]
      rw [if_neg (by omega), if_neg (by omega)]; congr 3; omega
    rw [e1]
    simp only [rStep, Option.bind_some, e44]
    rw [if_pos trivial, if_neg (by omega)]
  · rw [dec_hi k (by omega) (by omega)]
    show rStep (rStep (rStep (some (a, 0, 0)) (UInt8.ofNat (48 + k / 10))) (UInt8.ofNat (48 + k % 10))) 44 = _
    have e1 : rStep (some (a, 0, 0)) (UInt8.ofNat (48 + k / 10)) = some (a, k / 10, 1) := by
      simp only [rStep, Option.bind_some, u8_nat (k / 10) (by omega)]
      rw [if_neg (by omega), if_neg (by omega)]; congr 3; omega
    have e2 : rStep (some (a, k / 10, 1)) (UInt8.ofNat (48 + k % 10)) = some (a, k, 2) := by
      simp only [rStep, Option.bind_some, u8_nat (k % 10) (by omega)]
      rw [if_neg (by omega), if_neg (by omega)]; congr 3; omega
    rw [e1, e2]
    simp only [rStep, Option.bind_some, e44]
    rw [if_pos trivial, if_neg (by omega)]
theorem join_end (x : List UInt8) : ∀ r : List (List UInt8), Lib.join (x :: r) [44] ++ [44] = (x :: r).flatMap (· ++ [44])
  | [] => by rw [Lib.join_one]; simp
  | y :: r => by
    have ih := join_end y r
    rw [List.flatMap_cons, ← ih, Lib.join_cons, Lib.join_cons]
    simp [Lib.joinTail]
def orL (l : List Nat) (a : BitVec 64) : BitVec 64 := l.foldl (fun x k => or64 x (bit64 k)) a
theorem pRun_mem : ∀ (l : List Nat) (a : BitVec 64), (∀ k ∈ l, k < 64) → pRun (some (a, 0)) ((l.map Lib.decDigits).flatMap (· ++ [44])) = some (orL l a, 0)
  | [], _, _ => rfl
  | k :: l, a, h => by
    rw [List.map_cons, List.flatMap_cons, pRun_app, pRun_num a k (h k (by simp)), pRun_mem l _ fun j hj => h j (by simp [hj])]
    rfl
theorem rRun_mem : ∀ (l : List Nat) (a : BitVec 64), (∀ k ∈ l, k < 64) → rRun (some (a, 0, 0)) ((l.map Lib.decDigits).flatMap (· ++ [44])) = some (orL l a, 0, 0)
  | [], _, _ => rfl
  | k :: l, a, h => by
    rw [List.map_cons, List.flatMap_cons, rRun_app, rRun_num a k (h k (by simp)), rRun_mem l _ fun j hj => h j (by simp [hj])]
    rfl
theorem bit_get (k j : Nat) (hj : j < 64) : (bit64 k).getLsbD j = decide (j = k) := by
  unfold bit64
  rw [BitVec.getLsbD_shiftLeft]
  by_cases h : j = k
  · subst h; simp [hj]
  · rw [decide_eq_false h]
    by_cases h2 : j < k
    · simp [h2]
    · have h3 : (1#64).getLsbD (j - k) = false := by
        show (1 % 2 ^ 64).testBit (j - k) = false
        obtain ⟨d, hd⟩ : ∃ d, j - k = d + 1 := ⟨j - k - 1, by omega⟩
        rw [hd, show 1 % 2 ^ 64 = 1 by decide, Nat.testBit_succ]
        simp
      rw [h3]; simp
theorem orL_get (j : Nat) (hj : j < 64) : ∀ (l : List Nat) (a : BitVec 64), (orL l a).getLsbD j = (a.getLsbD j || decide (j ∈ l))
  | [], a => by simp [orL]
  | k :: l, a => by
    show (orL l (or64 a (bit64 k))).getLsbD j = _
    rw [orL_get j hj l, or64, BitVec.getLsbD_or, bit_get k j hj, Bool.or_assoc]
    congr 1
    rw [Bool.eq_iff_iff]
    simp
theorem orL_mem (a : BitVec 64) : orL (memL a) 0 = a := by
  apply BitVec.eq_of_getLsbD_eq
  intro j hj
  rw [orL_get j hj]
  simp [memL, hj, hasB]
theorem text_end (a : BitVec 64) (h : a ≠ 0) : textL a ++ [44] = ((memL a).map Lib.decDigits).flatMap (· ++ [44]) := by
  unfold textL
  rw [mem_step a h, if_neg (by simp), List.map_cons, join_end]
theorem pRun_text (a : BitVec 64) (h : a ≠ 0) : pRun (some (0, 0)) (textL a ++ [44]) = some (a, 0) := by
  rw [text_end a h, pRun_mem _ _ fun k hk => mem_lt hk, orL_mem]
theorem rRun_text (a : BitVec 64) (h : a ≠ 0) : rRun (some (0, 0, 0)) (textL a ++ [44]) = some (a, 0, 0) := by
  rw [text_end a h, rRun_mem _ _ fun k hk => mem_lt hk, orL_mem]
theorem text_zero : textL 0 = [45] := by unfold textL; rw [mem_zero, if_pos rfl]
theorem text_dash {a : BitVec 64} (h : textL a = [45]) : a = 0 := by
  by_cases e : a = 0
  · exact e
  · have := pRun_text a e
    rw [h] at this
    cases this
def parseP (s : List UInt8) : Option (BitVec 64) :=
  if s = [45] then some 0 else (pRun (some (0, 0)) (s ++ [44])).bind fun p => if textL p.1 = s then some p.1 else none
def parseR (s : List UInt8) : Option (BitVec 64) :=
  if s = [45] then some 0 else (rRun (some (0, 0, 0)) (s ++ [44])).bind fun p => if textL p.1 = s then some p.1 else none
theorem parseP_text (a : BitVec 64) : parseP (textL a) = some a := by
  unfold parseP
  by_cases h : textL a = [45]
  · rw [if_pos h, text_dash h]
  · have e : a ≠ 0 := fun e => h (by rw [e, text_zero])
    rw [if_neg h, pRun_text a e, Option.bind_some, if_pos rfl]
theorem parseR_text (a : BitVec 64) : parseR (textL a) = some a := by
  unfold parseR
  by_cases h : textL a = [45]
  · rw [if_pos h, text_dash h]
  · have e : a ≠ 0 := fun e => h (by rw [e, text_zero])
    rw [if_neg h, rRun_text a e, Option.bind_some, if_pos rfl]
theorem parse_sound {s : List UInt8} {a : BitVec 64} (h : parseP s = some a) : textL a = s := by
  unfold parseP at h
  by_cases e : s = [45]
  · rw [if_pos e] at h; injection h with h; rw [← h, text_zero, e]
  · rw [if_neg e] at h
    obtain ⟨p, -, hp⟩ := Option.bind_eq_some_iff.1 h
    by_cases e2 : textL p.1 = s
    · rw [if_pos e2] at hp; injection hp with hp; rw [← hp, e2]
    · rw [if_neg e2] at hp; cases hp
theorem parseR_sound {s : List UInt8} {a : BitVec 64} (h : parseR s = some a) : textL a = s := by
  unfold parseR at h
  by_cases e : s = [45]
  · rw [if_pos e] at h; injection h with h; rw [← h, text_zero, e]
  · rw [if_neg e] at h
    obtain ⟨p, -, hp⟩ := Option.bind_eq_some_iff.1 h
    by_cases e2 : textL p.1 = s
    · rw [if_pos e2] at hp; injection hp with hp; rw [← hp, e2]
    · rw [if_neg e2] at hp; cases hp
theorem parse_eq (s : List UInt8) : parseP s = parseR s := by
  cases h : parseP s with
  | some a => rw [← parse_sound h, parseR_text]
  | none =>
    cases h2 : parseR s with
    | none => rfl
    | some a => rw [← parseR_sound h2, parseP_text] at h; cases h

/-! Order. -/
def belowB (a b : BitVec 64) : Bool := andn64 a b == 0
theorem below_iff (a b : BitVec 64) : belowB a b = true ↔ ∀ k, k < 64 → hasB a k = true → hasB b k = true := by
  unfold belowB andn64 hasB
  rw [beq_iff_eq]
  constructor
  · intro h k hk ha
    have := congrArg (·.getLsbD k) h
    simp only [BitVec.getLsbD_and, BitVec.getLsbD_not, ha] at this
    simpa [hk] using this
  · intro h
    apply BitVec.eq_of_getLsbD_eq
    intro k hk
    simp only [BitVec.getLsbD_and, BitVec.getLsbD_not]
    cases ha : a.getLsbD k with
    | false => simp
    | true => simp [hk, h k hk ha]
end Go.Proofs.YthpallkphamobaaGreatDoor
