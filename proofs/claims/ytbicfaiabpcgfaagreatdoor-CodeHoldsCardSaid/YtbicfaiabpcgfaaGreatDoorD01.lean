/- Texts of this claim, merged; no condition. -/
import Derived.Test.YtbicfaiabpcgfaaGreatDoorD00
import Derived.Lib.TrailingZeros
import Derived.Lib.ItoaNum
import Derived.Lib.Join
import Derived.ChangeKeysEq
import Derived.Laws.StructEq
import Derived.ArgAppend
import Derived.OwnWalkIn
import Derived.StillTail
import Derived.Orders
set_option linter.all false
namespace Go.Proofs.YtbicfaiabpcgfaaGreatDoor
open Go.RowKit

theorem refOf_any (n : Nat) (w : World) (h : n < 18446744073709551616) :
    Calls Tryz.prog 22 #[.int .u64 n] w fun e w' => e = .returned (wordV n) ∧ Below w.heap.size w w' := by
  have e : wordV n = .agg #[.int .u64 n, .int .u64 0, .int .u64 0, .int .u64 0] := by
    have h0 : limb n 0 = n := by unfold limb; simp; omega
    have h1 : limb n 1 = 0 := by unfold limb; simp; omega
    have h2 : limb n 2 = 0 := by unfold limb; simp; omega
    have h3 : limb n 3 = 0 := by unfold limb; simp; omega
    unfold wordV
    rw [h0, h1, h2, h3]; rfl
  rw [e]
  go_enter Tryz.func22, Tryz.ntmps22
  go_wp2
  refine bodyPost_ret (v := .agg #[.int .u64 n, .int .u64 0, .int .u64 0, .int .u64 0]) (by simp [results, Tryz.results22, go_sem]) rfl ⟨rfl, ?_⟩
  repeat (first | exact xrefl _ | refine xalloc ?_ _ | refine xset ?_ (by simp) _)

end Go.Proofs.YtbicfaiabpcgfaaGreatDoor
namespace Go.Proofs.YtbicfaiabpcgfaaGreatDoor
open Go.RowKit

/-- A number of 32 bits, as Go's uint32 holds it. -/
def iv32 (x : BitVec 32) : Int := x.toNat
def iv64 (x : BitVec 64) : Int := x.toNat
theorem iv32_inj {x y : BitVec 32} : iv32 x = iv32 y ↔ x = y := by unfold iv32; rw [BitVec.toNat_eq]; omega
theorem iv64_inj {x y : BitVec 64} : iv64 x = iv64 y ↔ x = y := by unfold iv64; rw [BitVec.toNat_eq]; omega
theorem ofInt32 (x : BitVec 32) : BitVec.ofInt 32 (x.toNat : Int) = x := by rw [BitVec.ofInt_natCast]; simp
theorem ofInt64 (x : BitVec 64) : BitVec.ofInt 64 (x.toNat : Int) = x := by rw [BitVec.ofInt_natCast]; simp
theorem wrap32_nat (n : Nat) : IntKind.u32.wrap (n : Int) = iv32 (BitVec.ofNat 32 n) := by
  simp [IntKind.wrap, IntKind.bits, IntKind.signed, iv32]
theorem wrap64_nat (n : Nat) : IntKind.u64.wrap (n : Int) = iv64 (BitVec.ofNat 64 n) := by
  simp [IntKind.wrap, IntKind.bits, IntKind.signed, iv64]
/-! The operations, behind names. -/
def add32 (a b : BitVec 32) : BitVec 32 := a + b
def sub32 (a b : BitVec 32) : BitVec 32 := a - b
def and32 (a b : BitVec 32) : BitVec 32 := a &&& b
def or32 (a b : BitVec 32) : BitVec 32 := a ||| b
def xor32 (a b : BitVec 32) : BitVec 32 := a ^^^ b
def not32 (a : BitVec 32) : BitVec 32 := ~~~a
def shl32 (a : BitVec 32) (n : Nat) : BitVec 32 := a <<< n
def shr32 (a : BitVec 32) (n : Nat) : BitVec 32 := a >>> n

section
variable (t : TypeId) (a b : BitVec 32)
@[go_sem high] theorem op_add32 : binOp .add t (.int .u32 (iv32 a)) (.int .u32 (iv32 b)) = pure (.int .u32 (iv32 (add32 a b))) := by
  simp only [binOp_add, Op.intArith, iv32]
  rw [show ((a.toNat : Int) + (b.toNat : Int)) = ((a.toNat + b.toNat : Nat) : Int) by omega, wrap32_nat]
  simp [iv32, add32]
@[go_sem high] theorem op_sub32 : binOp .sub t (.int .u32 (iv32 a)) (.int .u32 (iv32 b)) = pure (.int .u32 (iv32 (sub32 a b))) := by
  simp only [binOp_sub, Op.intArith, iv32]
  have ha := a.isLt
  have hb := b.isLt
  congr 2
  simp only [IntKind.wrap, IntKind.bits, IntKind.signed, sub32, BitVec.toNat_sub]
  simp
  omega
@[go_sem high] theorem op_and32 : binOp .and t (.int .u32 (iv32 a)) (.int .u32 (iv32 b)) = pure (.int .u32 (iv32 (and32 a b))) := by
  simp only [binOp_and, intBits_and, bits, iv32, IntKind.bits, ofInt32, wrap32_nat]
  rw [BitVec.ofNat_toNat, BitVec.setWidth_eq]; rfl
@[go_sem high] theorem op_or32 : binOp .or t (.int .u32 (iv32 a)) (.int .u32 (iv32 b)) = pure (.int .u32 (iv32 (or32 a b))) := by
  simp only [binOp_or, intBits_or, bits, iv32, IntKind.bits, ofInt32, wrap32_nat]
  rw [BitVec.ofNat_toNat, BitVec.setWidth_eq]; rfl
@[go_sem high] theorem op_xor32 : binOp .xor t (.int .u32 (iv32 a)) (.int .u32 (iv32 b)) = pure (.int .u32 (iv32 (xor32 a b))) := by
  simp only [binOp_xor, intBits_xor, bits, iv32, IntKind.bits, ofInt32, wrap32_nat]
  rw [BitVec.ofNat_toNat, BitVec.setWidth_eq]; rfl
@[go_sem high] theorem op_not32 : Op.unary .xor (.int .u32 (iv32 a)) = pure (.int .u32 (iv32 (not32 a))) := by
  rw [unary_xor]
  simp only [IntKind.signed, Bool.false_eq_true, if_false, intBits_xor, bits, iv32, IntKind.bits, ofInt32, wrap32_nat]
  rw [BitVec.ofNat_toNat, BitVec.setWidth_eq, show (BitVec.ofInt 32 IntKind.u32.max) = BitVec.allOnes 32 by rfl]
  exact congrArg (fun v : BitVec 32 => (pure (Value.int .u32 (v.toNat : Int)) : Sem Value)) BitVec.allOnes_xor
@[go_sem high] theorem op_shl32 (yk : IntKind) (y : Int) (h0 : 0 ≤ y) (h : y < 32) : binOp .shl t (.int .u32 (iv32 a)) (.int yk y) = pure (.int .u32 (iv32 (shl32 a y.toNat))) := by
  obtain ⟨n, rfl⟩ := Int.eq_ofNat_of_zero_le h0
  rw [binOp_shl, shift_shl_u32 _ _ _ (by omega) (by omega), Int.toNat_natCast]
  simp only [iv32, shl32]
  rw [show ((a.toNat : Int) * 2 ^ n) = ((a.toNat * 2 ^ n : Nat) : Int) by simp, wrap32_nat]
  simp [iv32, Nat.shiftLeft_eq]
@[go_sem high] theorem op_shr32 (yk : IntKind) (y : Int) (h0 : 0 ≤ y) (h : y < 32) : binOp .shr t (.int .u32 (iv32 a)) (.int yk y) = pure (.int .u32 (iv32 (shr32 a y.toNat))) := by
  obtain ⟨n, rfl⟩ := Int.eq_ofNat_of_zero_le h0
  rw [binOp_shr, shift_shr_u32 _ _ _ (by omega) (by omega), Int.toNat_natCast]
  simp only [iv32, shr32, BitVec.toNat_ushiftRight, Nat.shiftRight_eq_div_pow]
  simp
@[go_sem high] theorem op_eql32 : binOp .eql t (.int .u32 (iv32 a)) (.int .u32 (iv32 b)) = pure (.bool (a == b)) := by
  rw [binOp_eql]
  have : (iv32 a == iv32 b) = (a == b) := by rw [Bool.eq_iff_iff, beq_iff_eq, beq_iff_eq, iv32_inj]
  rw [this]
end

end Go.Proofs.YtbicfaiabpcgfaaGreatDoor
namespace Go.Proofs.YtbicfaiabpcgfaaGreatDoor
open Go.RowKit

def or64 (a b : BitVec 64) : BitVec 64 := a ||| b
def and64 (a b : BitVec 64) : BitVec 64 := a &&& b
def andn64 (a b : BitVec 64) : BitVec 64 := a &&& ~~~b
def shr64 (a : BitVec 64) (n : Nat) : BitVec 64 := a >>> n
def dec64 (a : BitVec 64) : BitVec 64 := a - 1
def bit64 (n : Nat) : BitVec 64 := 1#64 <<< n
section
variable (t : TypeId) (a b : BitVec 64)
@[go_sem high] theorem op_and64 : binOp .and t (.int .u64 (iv64 a)) (.int .u64 (iv64 b)) = pure (.int .u64 (iv64 (and64 a b))) := by
  simp only [binOp_and, intBits_and, bits, iv64, IntKind.bits, ofInt64, wrap64_nat]
  rw [BitVec.ofNat_toNat, BitVec.setWidth_eq]; rfl
@[go_sem high] theorem op_or64 : binOp .or t (.int .u64 (iv64 a)) (.int .u64 (iv64 b)) = pure (.int .u64 (iv64 (or64 a b))) := by
  simp only [binOp_or, intBits_or, bits, iv64, IntKind.bits, ofInt64, wrap64_nat]
  rw [BitVec.ofNat_toNat, BitVec.setWidth_eq]; rfl
@[go_sem high] theorem op_andn64 : binOp .andNot t (.int .u64 (iv64 a)) (.int .u64 (iv64 b)) = pure (.int .u64 (iv64 (andn64 a b))) := by
  simp only [binOp_andNot, intBits_andNot, bits, iv64, IntKind.bits, ofInt64, wrap64_nat]
  rw [BitVec.ofNat_toNat, BitVec.setWidth_eq]; rfl
@[go_sem high] theorem op_dec64 : binOp .sub t (.int .u64 (iv64 a)) (.int .u64 1) = pure (.int .u64 (iv64 (dec64 a))) := by
  simp only [binOp_sub, Op.intArith, iv64]
  have ha := a.isLt
  congr 2
  simp only [IntKind.wrap, IntKind.bits, IntKind.signed, dec64, BitVec.toNat_sub]
  simp
  omega
@[go_sem high] theorem op_bit64 (yk : IntKind) (y : Int) (h0 : 0 ≤ y) (h : y < 64) : binOp .shl t (.int .u64 1) (.int yk y) = pure (.int .u64 (iv64 (bit64 y.toNat))) := by
  obtain ⟨n, rfl⟩ := Int.eq_ofNat_of_zero_le h0
  rw [binOp_shl, shift_shl_u64 _ _ _ (by omega) (by omega), Int.toNat_natCast]
  rw [show ((1 : Int) * 2 ^ n) = ((2 ^ n : Nat) : Int) by simp, wrap64_nat]
  simp only [iv64, bit64, BitVec.toNat_shiftLeft, BitVec.toNat_ofNat, Nat.shiftLeft_eq]
  simp
@[go_sem high] theorem op_shr64 (yk : IntKind) (y : Int) (h0 : 0 ≤ y) (h : y < 64) : binOp .shr t (.int .u64 (iv64 a)) (.int yk y) = pure (.int .u64 (iv64 (shr64 a y.toNat))) := by
  obtain ⟨n, rfl⟩ := Int.eq_ofNat_of_zero_le h0
  rw [binOp_shr, shift_shr_u64 _ _ _ (by omega) (by omega), Int.toNat_natCast]
  simp only [iv64, shr64, BitVec.toNat_ushiftRight, Nat.shiftRight_eq_div_pow]
  simp
@[go_sem high] theorem op_eql64 : binOp .eql t (.int .u64 (iv64 a)) (.int .u64 (iv64 b)) = pure (.bool (a == b)) := by
  rw [binOp_eql]
  have : (iv64 a == iv64 b) = (a == b) := by rw [Bool.eq_iff_iff, beq_iff_eq, beq_iff_eq, iv64_inj]
  rw [this]
@[go_sem high] theorem op_eqz64 : binOp .eql t (.int .u64 (iv64 a)) (.int .u64 0) = pure (.bool (a == 0)) := op_eql64 t a 0
@[go_sem high] theorem op_nez64 : binOp .neq t (.int .u64 (iv64 a)) (.int .u64 0) = pure (.bool (!(a == 0))) := by
  rw [binOp_neq]
  have : (iv64 a == 0) = (a == 0) := by
    have h := @iv64_inj a 0
    rw [Bool.eq_iff_iff, beq_iff_eq, beq_iff_eq, ← h]; rfl
  show pure (Value.bool (!(iv64 a == 0))) = _
  rw [this]
end

theorem dec_lo (k : Nat) (h : k < 10) : Lib.decDigits k = [UInt8.ofNat (48 + k)] := by rw [Lib.decDigits, dif_pos h]
theorem dec_hi (k : Nat) (h : 10 ≤ k) (h2 : k < 100) : Lib.decDigits k = [UInt8.ofNat (48 + k / 10), UInt8.ofNat (48 + k % 10)] := by
  rw [Lib.decDigits, dif_neg (by omega), dec_lo (k / 10) (by omega)]; rfl
theorem u8_nat (k : Nat) (h : k < 100) : (UInt8.ofNat (48 + k)).toNat = 48 + k := by
  rw [UInt8.toNat_ofNat']; omega
end Go.Proofs.YtbicfaiabpcgfaaGreatDoor
namespace Go.Proofs.YtbicfaiabpcgfaaGreatDoor
open Go.RowKit

theorem run_part_int {P : Program} (e : TypeId) (q q' : IntKind) (l : List Int) (k : Nat) (w : World) (he : P.underlying e = some (.int q')) (hk : k < l.length) : (part e (l.map (Value.int q)).toArray k).run P w = .ok (.int q l[k]) w := by
  have hagg : (isAgg e).run P w = .ok false w := by
    unfold isAgg
    rw [Sem.run_bind, run_underlying he w]
    rfl
  simp [part, hagg, Sem.run_bind, hk]
/-- Two arrays of integers are compared. -/
theorem run_eqItems_ints {P : Program} (d : Nat) (e : TypeId) (q q' : IntKind) (l l' : List Int) (w : World) (he : P.underlying e = some (.int q')) (hl : l.length = l'.length) :
    ∀ (m k : Nat), k + m = l.length → (Op.eqItems (d + 1) e 1 (l.map (Value.int q)).toArray (l'.map (Value.int q)).toArray (List.range' k m)).run P w = .ok (decide (l.drop k = l'.drop k)) w
  | 0, k, h => by
    rw [List.drop_eq_nil_of_le (by omega), List.drop_eq_nil_of_le (by omega)]
    simp [Op.eqItems]
  | m + 1, k, h => by
    have hk : k < l.length := by omega
    have hk' : k < l'.length := by omega
    have ih := run_eqItems_ints d e q q' l l' w he hl m (k + 1) (by omega)
    have h1 := run_part_int e q q' l k w he hk
    have h2 := run_part_int e q q' l' k w he hk'
    have h3 := run_equalIn_int (P := P) w d e q q' l[k] l'[k] he
    have hd : decide (l.drop k = l'.drop k) = (l[k] == l'[k] && decide (l.drop (k + 1) = l'.drop (k + 1))) := by
      rw [List.drop_eq_getElem_cons hk, List.drop_eq_getElem_cons hk', Bool.eq_iff_iff, decide_eq_true_iff, Bool.and_eq_true, beq_iff_eq, decide_eq_true_iff, List.cons.injEq]
    simp only [List.range'_succ, Op.eqItems, Sem.run_bind, Nat.mul_one, h1, h2, h3, Result.andThen_ok]
    rw [hd]
    by_cases c : l[k] = l'[k]
    · simp [c, ih]
    · simp [c]
theorem run_eql_ints {P : Program} (T e : TypeId) (n : Nat) (q q' : IntKind) (l l' : List Int) (w : World) (hT : P.underlying T = some (.array n e)) (he : P.underlying e = some (.int q')) (hs : (P.info? e).isSome = true) (hc : P.cellsOf e = 1)
    (hn : l.length = n) (hn' : l'.length = n) : (binOp .eql T (.agg (l.map (Value.int q)).toArray) (.agg (l'.map (Value.int q)).toArray)).run P w = .ok (.bool (decide (l = l'))) w := by
  obtain ⟨i, hi⟩ := Option.isSome_iff_exists.1 hs
  rw [run_eql_struct, show (10000 : Nat) = 9999 + 1 from rfl, run_equalIn_array w 9999 _ _ hT hi, hc, List.range_eq_range', run_eqItems_ints 9998 e q q' l l' w he (by omega) n 0 (by omega)]
  simp
end Go.Proofs.YtbicfaiabpcgfaaGreatDoor
namespace Go.Proofs.YtbicfaiabpcgfaaGreatDoor
open Go.RowKit

theorem rowAt_new {q : IntKind} (w : World) (T : TypeId) (zs : List Int) : RowAt q (w.alloc (.cells (zs.map (Value.int q)).toArray T)) (some ⟨w.heap.size, 0, none⟩) zs := fun i hi =>
  ⟨_, _, rfl, by have h := (Blk.new (q := q) w T zs).cell i hi; rw [Nat.zero_add]; exact h⟩
theorem rowAt_one {q : IntKind} (w : World) (T : TypeId) (x : Int) : RowAt q (w.alloc (.cells #[.int q x] T)) (some ⟨w.heap.size, 0, none⟩) [x] := rowAt_new w T [x]
theorem own_keep {w w' : World} {base : Nat} {e : TypeId} {size : Nat} {v : Value} {n : Nat} {xs : List Value} (h : w.ownsRow base e size v n xs) (hb : Below w.heap.size w w') : w'.ownsRow base e size v n xs :=
  h.kept ⟨hb.os, hb.tape, hb.output, hb.size, fun k hk _ => hb.block k hk⟩ (row := none) (by cases v.ownBlock <;> simp)
end Go.Proofs.YtbicfaiabpcgfaaGreatDoor
namespace Go.Proofs.YtbicfaiabpcgfaaGreatDoor
open Go.RowKit

theorem run_append_own_blk {P : Program} (w : World) (base : Nat) (t ty e : TypeId) (i : TypeInfo) (z : Value) (bytes : Nat) (ht : P.underlying t = some (.slice e)) (hi : P.info? e = some i) (hz : i.zero = some z)
    (hsize : i.size = 1) (hby : i.bytes = bytes) (hzs : z.cells.size = 1) (v : Value) (n : Nat) (xs : List Value) (hown : w.ownsRow base e 1 v n xs)
    (a : Addr) (m c : Nat) (news : List Value) (hl : news.length = m) (hnews : ∀ j u, news[j]? = some u → w.cell? (a.add j) = some u) (h1 : ∀ u ∈ news, u.oneCell' = true)
    (h63 : n + m ≤ maxLen) (hbytes : (n + m) * bytes ≤ 140737488355328) (hbase : base ≤ w.heap.size) :
    ∃ v' w', (Builtin.append_ #[t, t] ty #[v, .slice (some a) m c]).run P w = .ok v' w' ∧ w'.ownsRow base e 1 v' (n + m) (xs ++ news) ∧ w.grownBy w' v.ownBlock ∧
      (v'.ownBlock = v.ownBlock ∨ ∀ k, v'.ownBlock = some k → w.heap.size ≤ k) := by
  obtain ⟨v', w', hr, ho, hg, -⟩ := run_append_own (P := P) w base t ty e i z 1 bytes ht hi hz hsize hby hzs (by decide) v n xs hown a m c news (by rw [hl, Nat.mul_one]) hnews h1 h63 hbytes hbase
  refine ⟨v', w', hr, ho, hg, ?_⟩
  rcases hown.2 with ⟨rfl, rfl⟩ | ⟨g, cap, cur, rfl, hbg, hgg, hnc, hcm, hcs, htake⟩
  · obtain ⟨v2, w2, hr2, ho2, -, -⟩ := run_append_own (P := P) w w.heap.size t ty e i z 1 bytes ht hi hz hsize hby hzs (by decide) (.slice none 0 0) 0 [] (World.ownsRow_nil _ _ _ _) a m c news (by rw [hl, Nat.mul_one]) hnews h1 (by simpa using h63) (by simpa using hbytes) (Nat.le_refl _)
    rw [hr] at hr2
    obtain ⟨rfl, rfl⟩ : v' = v2 ∧ w' = w2 := by injection hr2; exact ⟨by assumption, by assumption⟩
    exact .inr fun k hk => (ho2.lt k hk).1
  · by_cases hroom : n + m ≤ cap
    · have hcells : ∀ j, j < cur.size → w.cell? ⟨g, j, none⟩ = cur[j]? := fun j _ => by rw [cell_of_row w g j cur e (0, 0) hgg]
      have hr2 := run_append_room_cells (P := P) w t ty e i ht hi g 0 n cap a m c news (by rw [hsize, hl, Nat.mul_one]) hnews h1 hroom (fun j hj => by
        have hlt : 0 + n * i.size + j < cur.size := by rw [hsize]; omega
        rw [hcells _ hlt, Array.getElem?_eq_getElem hlt]; rfl) (fun j hj => frozen_of_row w g _ cur e hgg)
      rw [hr] at hr2
      obtain ⟨rfl, rfl⟩ : v' = .slice (some ⟨g, 0, none⟩) (n + m) cap ∧ w' = _ := by injection hr2; exact ⟨by assumption, by assumption⟩
      exact .inl rfl
    · obtain ⟨v2, w2, hr2, ho2, -⟩ := run_append_arg_grows (P := P) w t ty e i z 1 bytes ht hi hz hsize hby hzs (by decide) ⟨g, 0, none⟩ n cap xs hown.1 (fun j u hj => hown.cells (g := g) rfl j u hj) a m c news (by rw [hl, Nat.mul_one]) hnews (by omega) h63 hbytes
      rw [hr] at hr2
      obtain ⟨rfl, rfl⟩ : v' = v2 ∧ w' = w2 := by injection hr2; exact ⟨by assumption, by assumption⟩
      exact .inr fun k hk => (ho2.lt k hk).1

theorem wpListIn_append_blk {F : Fence} {N : Nat} {P : Program} (w : World) {ops : Array Oper} {rest : List Oper} {o : Oper} {ac : Act} {Q : Exit → Act → World → Prop} (hgd : o.guard = none) (s x : Operand) (t : TypeId)
    (hop : o.op = .call { callee := .builtin .append, args := #[s, x], argTypes := #[t, t] })
    (base : Nat) (e : TypeId) (i : TypeInfo) (z : Value) (bytes : Nat) (ht : P.underlying t = some (.slice e)) (hi : P.info? e = some i) (hz : i.zero = some z)
    (hsize : i.size = 1) (hby : i.bytes = bytes) (hzs : z.cells.size = 1) (v : Value) (n : Nat) (xs : List Value) (hs : ac.eval s = v) (hown : w.ownsRow base e 1 v n xs)
    (a : Addr) (m c : Nat) (news : List Value) (hx : ac.eval x = .slice (some a) m c) (hl : news.length = m) (hnews : ∀ j u, news[j]? = some u → w.cell? (a.add j) = some u) (h1 : ∀ u ∈ news, u.oneCell' = true)
    (h63 : n + m ≤ maxLen) (hbytes : (n + m) * bytes ≤ 140737488355328) (hbase : base ≤ w.heap.size)
    (hK : ∀ v' w', w'.ownsRow base e 1 v' (n + m) (xs ++ news) → w.grownBy w' v.ownBlock → (v'.ownBlock = v.ownBlock ∨ ∀ k, v'.ownBlock = some k → w.heap.size ≤ k) → wpListIn F N P ops Q rest (ac.put o.dst v') w') : wpListIn F N P ops Q (o :: rest) ac w := by
  refine wpListIn_plain hgd fun K hK' => ?_
  obtain ⟨v', w', hrun, r1, r2, r3⟩ := run_append_own_blk (P := P) w base t o.type e i z bytes ht hi hz hsize hby hzs v n xs hown a m c news hl hnews h1 h63 hbytes hbase
  unfold Oper.wpIn
  refine ⟨?_, ?_⟩
  · simp [Oper.about, hop, resolve, Target.leads, Sem.run_pure]
  · rw [Oper.semAt_plain F _ _ (by rw [hop]; intro c hc'; cases hc')]
    simp [execOp, hop, resolve, invoke, builtin, hs, hx, hrun, Result.andThen]
    exact hK' _ _ (hK v' w' r1 r2 r3)

end Go.Proofs.YtbicfaiabpcgfaaGreatDoor
namespace Go.Proofs.YtbicfaiabpcgfaaGreatDoor
open Go.RowKit

/-- What an operation came to: the value v, memory having grown. -/
def growsUpon (P : Program) (W : World) (v : Value) : Result Next → Prop
  | .ok (.value u) W' => u = v ∧ Below W.heap.size W W'
  | .ok .skip W' => v = undef ∧ Below W.heap.size W W'
  | .ok (.enter f args) W1 => Calls P f args W1 fun e W' => e = .returned v ∧ Below W.heap.size W W'
  | _ => False
@[go_sem] theorem growsUpon_value (P : Program) (W W' : World) (u v : Value) : growsUpon P W v (.ok (.value u) W') = (u = v ∧ Below W.heap.size W W') := rfl
@[go_sem] theorem growsUpon_skip (P : Program) (W W' : World) (v : Value) : growsUpon P W v (.ok .skip W') = (v = undef ∧ Below W.heap.size W W') := rfl
@[go_sem] theorem growsUpon_enter (P : Program) (W W' : World) (v : Value) (f : FuncId) (args : Array Value) : growsUpon P W v (.ok (.enter f args) W') = Calls P f args W' fun e W'' => e = .returned v ∧ Below W.heap.size W W'' := rfl

/-- The frame behind the first i operations, in the text's order. -/
def layT : List Oper → (Nat → Value) → Nat → Act → Act
  | _, _, 0, a => a
  | [], _, _ + 1, a => a
  | o :: l, vs, i + 1, a => layT l (fun j => vs (j + 1)) i (a.put o.dst (vs 0))

/-- What a frame holds when the operations of D are done. -/
structure Laid (l : List Oper) (vs : Nat → Value) (a : Act) (D : Nat → Prop) (x : Act) : Prop where
  defers : x.defers = a.defers
  size : x.tmps.size = a.tmps.size
  done : ∀ (j : Nat) (o : Oper) (d : Tmp), l[j]? = some o → D j → o.dst = some d → d < a.tmps.size → x.tmps[d]? = some (vs j)
  else_ : ∀ t, (∀ (j : Nat) (o : Oper), l[j]? = some o → D j → o.dst ≠ some t) → x.tmps[t]? = a.tmps[t]?

/-- No two write to one slot. -/
def Apart (l : List Oper) : Prop := ∀ (i j : Nat) (o o' : Oper) (d : Tmp), l[i]? = some o → l[j]? = some o' → o.dst = some d → o'.dst = some d → i = j

theorem Laid.put {l : List Oper} {vs : Nat → Value} {a x : Act} {D : Nat → Prop} (hap : Apart l) (h : Laid l vs a D x) {i : Nat} {o : Oper} (ho : l[i]? = some o) : Laid l vs a (fun j => j = i ∨ D j) (x.put o.dst (vs i)) := by
  cases hd : o.dst with
  | none =>
    refine ⟨h.defers, h.size, fun j o' d hj hD hdd hlt => ?_, fun t ht => h.else_ t fun j o' hj hD => ht j o' hj (.inr hD)⟩
    rcases hD with rfl | hD
    · have : o = o' := Option.some.inj (ho.symm.trans hj)
      subst this
      rw [hd] at hdd; cases hdd
    · exact h.done j o' d hj hD hdd hlt
  | some d0 =>
    refine ⟨h.defers, by simp [Act.put, h.size], fun j o' d hj hD hdd hlt => ?_, fun t ht => ?_⟩
    · by_cases e : j = i
      · subst e
        have : o = o' := Option.some.inj (ho.symm.trans hj)
        subst this
        have : d0 = d := Option.some.inj (hd.symm.trans hdd)
        subst this
        simp [Act.put, Array.getElem?_setIfInBounds, h.size, hlt]
      · have hne : d0 ≠ d := fun e2 => e (hap j i o' o d hj ho hdd (by rw [hd, e2]))
        simp only [Act.put, Array.getElem?_setIfInBounds_ne hne]
        exact h.done j o' d hj (hD.resolve_left e) hdd hlt
    · have hne : d0 ≠ t := fun e2 => ht i o ho (.inl rfl) (by rw [hd, e2])
      simp only [Act.put, Array.getElem?_setIfInBounds_ne hne]
      exact h.else_ t fun j o' hj hD => ht j o' hj (.inr hD)

theorem Laid.refl (l : List Oper) (vs : Nat → Value) (a : Act) (D : Nat → Prop) (h : ∀ j, ¬ D j) : Laid l vs a D a := ⟨rfl, rfl, fun j _ _ _ hD => absurd hD (h j), fun _ _ => rfl⟩
theorem Laid.congr {l : List Oper} {vs : Nat → Value} {a x : Act} {D D' : Nat → Prop} (h : Laid l vs a D x) (hD : ∀ j, j < l.length → (D j ↔ D' j)) : Laid l vs a D' x :=
  ⟨h.defers, h.size, fun j o d hj hd => h.done j o d hj ((hD j (List.getElem?_eq_some_iff.1 hj).1).2 hd), fun t ht => h.else_ t fun j o hj hd => ht j o hj ((hD j (List.getElem?_eq_some_iff.1 hj).1).1 hd)⟩

theorem layT_succ : ∀ (l : List Oper) (vs : Nat → Value) (i : Nat) (a : Act) (o : Oper), l[i]? = some o → layT l vs (i + 1) a = (layT l vs i a).put o.dst (vs i)
  | [], _, _, _, _, h => by simp at h
  | x :: l, vs, 0, a, o, h => by
    obtain rfl : x = o := by simpa using h
    cases l <;> rfl
  | x :: l, vs, i + 1, a, o, h => by
    rw [layT, layT_succ l _ i _ o (by simpa using h)]
    rfl
theorem layT_laid {l : List Oper} (hap : Apart l) (vs : Nat → Value) (a : Act) : ∀ i, i ≤ l.length → Laid l vs a (· < i) (layT l vs i a)
  | 0, _ => by
    have : layT l vs 0 a = a := by cases l <;> rfl
    rw [this]
    exact Laid.refl l vs a _ (by omega)
  | i + 1, h => by
    have ho : l[i]? = some l[i] := by simp
    rw [layT_succ l vs i a _ ho]
    exact ((layT_laid hap vs a i (by omega)).put hap ho).congr fun j _ => by omega

theorem Laid.eq {l : List Oper} {vs : Nat → Value} {a x y : Act} {D : Nat → Prop} (h : Laid l vs a D x) (k : Laid l vs a D y) : x = y := by
  have ht : x.tmps = y.tmps := by
    apply Array.ext_getElem?
    intro t
    by_cases hx : ∃ (j : Nat) (o : Oper), l[j]? = some o ∧ D j ∧ o.dst = some t
    · obtain ⟨j, o, hj, hD, hd⟩ := hx
      by_cases hlt : t < a.tmps.size
      · rw [h.done j o t hj hD hd hlt, k.done j o t hj hD hd hlt]
      · rw [Array.getElem?_eq_none (by rw [h.size]; omega), Array.getElem?_eq_none (by rw [k.size]; omega)]
    · have hn : ∀ (j : Nat) (o : Oper), l[j]? = some o → D j → o.dst ≠ some t := fun j o hj hD hd => hx ⟨j, o, hj, hD, hd⟩
      rw [h.else_ t hn, k.else_ t hn]
  have hd : x.defers = y.defers := h.defers.trans k.defers.symm
  cases x; cases y; simp at ht hd; subst ht hd; rfl

/-- What an operation looks at, of what the region writes, it waits for. -/
def looksB (l : List Oper) (ops : Array Oper) : Bool :=
  l.all fun o => l.zipIdx.all fun p => match p.1.dst with
    | some d => !(o.looksAt ops).contains d || o.after.any fun e => Region.binds .any e && e.on == p.2
    | none => true
def apartB (l : List Oper) : Bool := l.zipIdx.all fun p => l.zipIdx.all fun q => p.2 == q.2 || match p.1.dst with
    | some d => q.1.dst != some d
    | none => true
def backB (ops : Array Oper) : Bool := ops.toList.zipIdx.all fun p => p.1.after.all fun e => !Region.binds .any e || decide (e.on < p.2)
def growB (l : List Oper) (n : Nat) : Bool :=
  Region.noSelect l.toArray && decide (n ≤ l.length) && (decide (n = l.length) || Region.sinkB .any l.toArray n && Region.chainB .any l.toArray n) && looksB (l.take n) l.toArray && apartB (l.take n) && backB l.toArray &&
    Region.seqB .any l.toArray (l.length - n) n ((List.range l.length).map fun i => decide (i < n)).toArray

theorem apartB_spec {l : List Oper} (h : apartB l = true) : Apart l := by
  intro i j o o' d hi hj hd hd'
  have hi2 : (o, i) ∈ l.zipIdx := List.mem_iff_getElem?.2 ⟨i, by simp [hi]⟩
  have hj2 : (o', j) ∈ l.zipIdx := List.mem_iff_getElem?.2 ⟨j, by simp [hj]⟩
  have h1 := List.all_eq_true.1 (List.all_eq_true.1 h _ hi2) _ hj2
  simp only [hd, hd', Bool.or_eq_true, beq_iff_eq] at h1
  rcases h1 with h1 | h1
  · exact h1
  · simp at h1
theorem looksB_spec {l : List Oper} {ops : Array Oper} (h : looksB l ops = true) {i j : Nat} {o o' : Oper} {d : Tmp} (hi : l[i]? = some o) (hj : l[j]? = some o') (hd : o'.dst = some d) (hm : d ∈ o.looksAt ops) :
    ∃ e ∈ o.after, Region.binds .any e = true ∧ e.on = j := by
  have hi2 : o ∈ l := List.mem_iff_getElem?.2 ⟨i, hi⟩
  have hj2 : (o', j) ∈ l.zipIdx := List.mem_iff_getElem?.2 ⟨j, by simp [hj]⟩
  have h1 := List.all_eq_true.1 (List.all_eq_true.1 h _ hi2) _ hj2
  simp only [hd, Bool.or_eq_true, Bool.not_eq_true'] at h1
  rcases h1 with h1 | h1
  · have : (o.looksAt ops).contains d = true := List.contains_iff_mem.2 hm
    rw [this] at h1; cases h1
  · obtain ⟨e, he, hb⟩ := Array.any_eq_true'.1 h1
    simp only [Bool.and_eq_true, beq_iff_eq] at hb
    exact ⟨e, he, hb.1, hb.2⟩

/-- Two frames that hold the same where an operation looks. -/
theorem exec_same {ops : Array Oper} {o : Oper} {x y : Act} (hs : ∀ cs b, o.op ≠ .select cs b) (h : ∀ t ∈ o.looksAt ops, x.tmps[t]? = y.tmps[t]?) :
    execOp x.eval o = execOp y.eval o ∧ Region.wanted o (yielded ops x.tmps) = Region.wanted o (yielded ops y.tmps) := by
  refine ⟨execOp_congr o hs fun z hz => ?_, ?_⟩
  · cases z with
    | tmp t =>
      have := h t (List.mem_append_left _ (List.mem_filterMap.2 ⟨.tmp t, by simpa using hz, rfl⟩))
      simp [Act.eval, this]
    | _ => rfl
  · unfold Region.wanted
    cases hg : o.guard with
    | none => rfl
    | some gw =>
      obtain ⟨g, want⟩ := gw
      have hy : yielded ops x.tmps g = yielded ops y.tmps g := by
        unfold yielded
        cases ht : (ops[g]?).bind (·.dst) with
        | none => rfl
        | some t =>
          have := h t (by simp [Oper.looksAt, hg, ht])
          simp [this]
      simp only [hy]

end Go.Proofs.YtbicfaiabpcgfaaGreatDoor
