/- Texts of this claim, merged; no condition. -/
import Derived.Deep.MidRow
import Derived.Test.YtijkdabmegbcjaaGreatDoorR02
import Derived.Test.YtijkdabmegbcjaaGreatDoorR00
import Derived.Lib.TrailingZeros
import Derived.Lib.ItoaNum
import Derived.Lib.Join
import Derived.ChangeKeysEq
import Derived.Laws.StructEq
import Derived.ArgAppend
import Derived.OwnWalkIn
import Derived.Orders
set_option linter.all false
namespace Go.Proofs.YtijkdabmegbcjaaGreatDoor
open Go.RowKit

theorem Blk.only {q : IntKind} {w w' : World} {b : Nat} {T : TypeId} {l : List Int} {O : Nat → Prop} (h : Blk q w b T l) (ho : Only O w w') (hb : ¬ O b) : Blk q w' b T l := (ho.same b h.lt hb).trans h

theorem wpList_load_blk {P : Program} {ops : Array Oper} {rest : List Oper} {o : Oper} {a : Act} {w : World} {Q : Exit → Act → World → Prop} (hgd : o.guard = none) (ty : TypeId) (x : Operand) (ho : o.op = .load ty x)
    (b : Nat) (hx : a.eval x = .pointer (some ⟨b, 0, none⟩)) (q : IntKind) (T : TypeId) (l : List Int) (n : Nat) (e : TypeId) (hB : Blk q w b T l) (hu : P.underlying ty = some (.array n e)) (hi : (P.info? ty).map (·.size) = some l.length)
    (h : wpList P ops Q rest (a.put o.dst (.agg (l.map (Value.int q)).toArray)) w) : wpList P ops Q (o :: rest) a w :=
  wpList_load_row hgd ty x ho b hx T _ (0, 0) _ hB hu rfl (by simpa using hi) h

theorem setCells_heap (b : Nat) : ∀ (vs : List Value) (o : Nat) (w : World) (k : Nat), k ≠ b → (w.setCells b o vs).heap[k]? = w.heap[k]?
  | [], _, _, _, _ => rfl
  | v :: vs, o, w, k, h => by
    rw [World.setCells, setCells_heap b vs (o + 1) _ k h]
    exact Below.heap_setCell w ⟨b, o, none⟩ v k h
theorem setCells_rest (b : Nat) : ∀ (vs : List Value) (o : Nat) (w : World), (w.setCells b o vs).os = w.os ∧ (w.setCells b o vs).tape = w.tape ∧ (w.setCells b o vs).output = w.output ∧ (w.setCells b o vs).heap.size = w.heap.size
  | [], _, _ => ⟨rfl, rfl, rfl, rfl⟩
  | v :: vs, o, w => by
    obtain ⟨h1, h2, h3, h4⟩ := setCells_rest b vs (o + 1) (w.setCell ⟨b, o, none⟩ v)
    exact ⟨h1, h2, h3, h4.trans (by simp [World.setCell])⟩
theorem setCells_only (b o : Nat) (vs : List Value) (w : World) : Only (· = b) w (w.setCells b o vs) := by
  obtain ⟨h1, h2, h3, h4⟩ := setCells_rest b vs o w
  exact ⟨h1, h2, h3, Nat.le_of_eq h4.symm, fun k _ hk => setCells_heap b vs o w k hk⟩
theorem setCells_blk (b : Nat) (T : TypeId) : ∀ (vs pre rest : List Value) (w : World), w.heap[b]? = some (.cells (pre ++ rest).toArray T (0, 0)) → vs.length = rest.length → (w.setCells b pre.length vs).heap[b]? = some (.cells (pre ++ vs).toArray T (0, 0))
  | [], pre, rest, w, h, hl => by
    have : rest = [] := List.length_eq_zero_iff.1 (by simpa using hl.symm)
    subst this
    exact h
  | v :: vs, pre, r :: rest, w, h, hl => by
    have h2 : (w.setCell ⟨b, pre.length, none⟩ v).heap[b]? = some (.cells ((pre ++ [v]) ++ rest).toArray T (0, 0)) := by
      rw [heap_setCell_same w b pre.length _ T _ h]
      congr 2
      apply Array.ext'
      simp
    have := setCells_blk b T vs (pre ++ [v]) rest (w.setCell ⟨b, pre.length, none⟩ v) h2 (by simpa using hl)
    rw [World.setCells]
    simpa using this

theorem Blk.there {q : IntKind} {w : World} {b : Nat} {T : TypeId} {l : List Int} (h : Blk q w b T l) : w.there b 0 l.length := fun j hj => ⟨by rw [Nat.zero_add, h.cell j hj]; rfl, by rw [Nat.zero_add]; exact h.frozen j⟩

/-- A whole array is stored into its block. -/
theorem wp_store_blk {P : Program} {o : Oper} {a : Act} {w : World} {K : Act → World → Prop} {Q : Exit → Act → World → Prop} (ty : TypeId) (x y : Operand) (ho : o.op = .store ty x y)
    (b : Nat) (hx : a.eval x = .pointer (some ⟨b, 0, none⟩)) (q : IntKind) (T : TypeId) (l l' : List Int) (hB : Blk q w b T l) (hy : a.eval y = .agg (l'.map (Value.int q)).toArray) (hl : l'.length = l.length) (hi : (P.info? ty).map (·.size) = some l'.length)
    (h : ∀ w', Blk q w' b T l' → Only (· = b) w w' → K (a.put o.dst undef) w') : o.wp P a w K Q := by
  refine wp_store_mid ty x y ho b 0 _ hx hy (by simpa [hl] using hB.there) (by simpa using hi) (all_oneCell_toArray (by intro v hv; rw [List.mem_map] at hv; obtain ⟨z, _, rfl⟩ := hv; rfl)) (h _ ?_ (setCells_only _ _ _ _))
  have := setCells_blk b T (l'.map (Value.int q)) [] (l.map (Value.int q)) w (by simpa [Blk] using hB) (by simp [hl])
  simpa [Blk] using this
theorem wpList_store_blk {P : Program} {ops : Array Oper} {rest : List Oper} {o : Oper} {a : Act} {w : World} {Q : Exit → Act → World → Prop} (hgd : o.guard = none) (ty : TypeId) (x y : Operand) (ho : o.op = .store ty x y)
    (b : Nat) (hx : a.eval x = .pointer (some ⟨b, 0, none⟩)) (q : IntKind) (T : TypeId) (l l' : List Int) (hB : Blk q w b T l) (hy : a.eval y = .agg (l'.map (Value.int q)).toArray) (hl : l'.length = l.length) (hi : (P.info? ty).map (·.size) = some l'.length)
    (h : ∀ w', Blk q w' b T l' → Only (· = b) w w' → wpList P ops Q rest (a.put o.dst undef) w') : wpList P ops Q (o :: rest) a w :=
  wpList_plain hgd fun _ hK => wp_store_blk ty x y ho b hx q T l l' hB hy hl hi fun w' h1 h2 => hK _ _ (h w' h1 h2)

end Go.Proofs.YtijkdabmegbcjaaGreatDoor
namespace Go.Proofs.YtijkdabmegbcjaaGreatDoor
open Go.RowKit

/-- A number of 32 bits, as Go's uint32 holds it. -/
def iv32 (x : BitVec 32) : Int := x.toNat
def iv64 (x : BitVec 64) : Int := x.toNat
theorem iv32_inj {x y : BitVec 32} : iv32 x = iv32 y ↔ x = y := by unfold iv32; rw [BitVec.toNat_eq]; omega
theorem iv64_inj {x y : BitVec 64} : iv64 x = iv64 y ↔ x = y := by unfold iv64; rw [BitVec.toNat_eq]; omega
theorem ofInt32 (x : BitVec 32) : BitVec.ofInt 32 (x.toNat : Int) = x := by rw [BitVec.ofInt_natCast]; simp
theorem ofInt64 (x : BitVec 64) : BitVec.ofInt 64 (x.toNat : Int) = x := by rw [BitVec.ofInt_natCast]; simp
theorem wrap32_nat (n : Nat) : IntKind.u32.wrap (n : Int) = iv32 (BitVec.ofNat 32 n) := by
  simp [IntKind.wrap, IntKind.bits, IntKind.signed, iv32]
theorem wrap64_nat (n : Nat) : IntKind.u64.wrap (n : Int) = iv64 (BitVec.ofNat 64 n) := by
  simp [IntKind.wrap, IntKind.bits, IntKind.signed, iv64]
/-! The operations, behind names. -/
def add32 (a b : BitVec 32) : BitVec 32 := a + b
def sub32 (a b : BitVec 32) : BitVec 32 := a - b
def and32 (a b : BitVec 32) : BitVec 32 := a &&& b
def or32 (a b : BitVec 32) : BitVec 32 := a ||| b
def xor32 (a b : BitVec 32) : BitVec 32 := a ^^^ b
def not32 (a : BitVec 32) : BitVec 32 := ~~~a
def shl32 (a : BitVec 32) (n : Nat) : BitVec 32 := a <<< n
def shr32 (a : BitVec 32) (n : Nat) : BitVec 32 := a >>> n

section
variable (t : TypeId) (a b : BitVec 32)
@[go_sem high] theorem op_add32 : binOp .add t (.int .u32 (iv32 a)) (.int .u32 (iv32 b)) = pure (.int .u32 (iv32 (add32 a b))) := by
  simp only [binOp_add, Op.intArith, iv32]
  rw [show ((a.toNat : Int) + (b.toNat : Int)) = ((a.toNat + b.toNat : Nat) : Int) by omega, wrap32_nat]
  simp [iv32, add32]
@[go_sem high] theorem op_sub32 : binOp .sub t (.int .u32 (iv32 a)) (.int .u32 (iv32 b)) = pure (.int .u32 (iv32 (sub32 a b))) := by
  simp only [binOp_sub, Op.intArith, iv32]
  have ha := a.isLt
  have hb := b.isLt
  congr 2
  simp only [IntKind.wrap, IntKind.bits, IntKind.signed, sub32, BitVec.toNat_sub]
  simp
  omega
@[go_sem high] theorem op_and32 : binOp .and t (.int .u32 (iv32 a)) (.int .u32 (iv32 b)) = pure (.int .u32 (iv32 (and32 a b))) := by
  simp only [binOp_and, intBits_and, bits, iv32, IntKind.bits, ofInt32, wrap32_nat]
  rw [BitVec.ofNat_toNat, BitVec.setWidth_eq]; rfl
@[go_sem high] theorem op_or32 : binOp .or t (.int .u32 (iv32 a)) (.int .u32 (iv32 b)) = pure (.int .u32 (iv32 (or32 a b))) := by
  simp only [binOp_or, intBits_or, bits, iv32, IntKind.bits, ofInt32, wrap32_nat]
  rw [BitVec.ofNat_toNat, BitVec.setWidth_eq]; rfl
@[go_sem high] theorem op_xor32 : binOp .xor t (.int .u32 (iv32 a)) (.int .u32 (iv32 b)) = pure (.int .u32 (iv32 (xor32 a b))) := by
  simp only [binOp_xor, intBits_xor, bits, iv32, IntKind.bits, ofInt32, wrap32_nat]
  rw [BitVec.ofNat_toNat, BitVec.setWidth_eq]; rfl
@[go_sem high] theorem op_not32 : Op.unary .xor (.int .u32 (iv32 a)) = pure (.int .u32 (iv32 (not32 a))) := by
  rw [unary_xor]
  simp only [IntKind.signed, Bool.false_eq_true, if_false, intBits_xor, bits, iv32, IntKind.bits, ofInt32, wrap32_nat]
  rw [BitVec.ofNat_toNat, BitVec.setWidth_eq, show (BitVec.ofInt 32 IntKind.u32.max) = BitVec.allOnes 32 by rfl]
  exact congrArg (fun v : BitVec 32 => (pure (Value.int .u32 (v.toNat : Int)) : Sem Value)) BitVec.allOnes_xor
@[go_sem high] theorem op_shl32 (yk : IntKind) (y : Int) (h0 : 0 ≤ y) (h : y < 32) : binOp .shl t (.int .u32 (iv32 a)) (.int yk y) = pure (.int .u32 (iv32 (shl32 a y.toNat))) := by
  obtain ⟨n, rfl⟩ := Int.eq_ofNat_of_zero_le h0
  rw [binOp_shl, shift_shl_u32 _ _ _ (by omega) (by omega), Int.toNat_natCast]
  simp only [iv32, shl32]
  rw [show ((a.toNat : Int) * 2 ^ n) = ((a.toNat * 2 ^ n : Nat) : Int) by simp, wrap32_nat]
  simp [iv32, Nat.shiftLeft_eq]
@[go_sem high] theorem op_shr32 (yk : IntKind) (y : Int) (h0 : 0 ≤ y) (h : y < 32) : binOp .shr t (.int .u32 (iv32 a)) (.int yk y) = pure (.int .u32 (iv32 (shr32 a y.toNat))) := by
  obtain ⟨n, rfl⟩ := Int.eq_ofNat_of_zero_le h0
  rw [binOp_shr, shift_shr_u32 _ _ _ (by omega) (by omega), Int.toNat_natCast]
  simp only [iv32, shr32, BitVec.toNat_ushiftRight, Nat.shiftRight_eq_div_pow]
  simp
@[go_sem high] theorem op_eql32 : binOp .eql t (.int .u32 (iv32 a)) (.int .u32 (iv32 b)) = pure (.bool (a == b)) := by
  rw [binOp_eql]
  have : (iv32 a == iv32 b) = (a == b) := by rw [Bool.eq_iff_iff, beq_iff_eq, beq_iff_eq, iv32_inj]
  rw [this]
end

end Go.Proofs.YtijkdabmegbcjaaGreatDoor
namespace Go.Proofs.YtijkdabmegbcjaaGreatDoor
open Go.RowKit

def or64 (a b : BitVec 64) : BitVec 64 := a ||| b
def and64 (a b : BitVec 64) : BitVec 64 := a &&& b
def andn64 (a b : BitVec 64) : BitVec 64 := a &&& ~~~b
def shr64 (a : BitVec 64) (n : Nat) : BitVec 64 := a >>> n
def dec64 (a : BitVec 64) : BitVec 64 := a - 1
def bit64 (n : Nat) : BitVec 64 := 1#64 <<< n
section
variable (t : TypeId) (a b : BitVec 64)
@[go_sem high] theorem op_and64 : binOp .and t (.int .u64 (iv64 a)) (.int .u64 (iv64 b)) = pure (.int .u64 (iv64 (and64 a b))) := by
  simp only [binOp_and, intBits_and, bits, iv64, IntKind.bits, ofInt64, wrap64_nat]
  rw [BitVec.ofNat_toNat, BitVec.setWidth_eq]; rfl
@[go_sem high] theorem op_or64 : binOp .or t (.int .u64 (iv64 a)) (.int .u64 (iv64 b)) = pure (.int .u64 (iv64 (or64 a b))) := by
  simp only [binOp_or, intBits_or, bits, iv64, IntKind.bits, ofInt64, wrap64_nat]
  rw [BitVec.ofNat_toNat, BitVec.setWidth_eq]; rfl
@[go_sem high] theorem op_andn64 : binOp .andNot t (.int .u64 (iv64 a)) (.int .u64 (iv64 b)) = pure (.int .u64 (iv64 (andn64 a b))) := by
  simp only [binOp_andNot, intBits_andNot, bits, iv64, IntKind.bits, ofInt64, wrap64_nat]
  rw [BitVec.ofNat_toNat, BitVec.setWidth_eq]; rfl
@[go_sem high] theorem op_dec64 : binOp .sub t (.int .u64 (iv64 a)) (.int .u64 1) = pure (.int .u64 (iv64 (dec64 a))) := by
  simp only [binOp_sub, Op.intArith, iv64]
  have ha := a.isLt
  congr 2
  simp only [IntKind.wrap, IntKind.bits, IntKind.signed, dec64, BitVec.toNat_sub]
  simp
  omega
@[go_sem high] theorem op_bit64 (yk : IntKind) (y : Int) (h0 : 0 ≤ y) (h : y < 64) : binOp .shl t (.int .u64 1) (.int yk y) = pure (.int .u64 (iv64 (bit64 y.toNat))) := by
  obtain ⟨n, rfl⟩ := Int.eq_ofNat_of_zero_le h0
  rw [binOp_shl, shift_shl_u64 _ _ _ (by omega) (by omega), Int.toNat_natCast]
  rw [show ((1 : Int) * 2 ^ n) = ((2 ^ n : Nat) : Int) by simp, wrap64_nat]
  simp only [iv64, bit64, BitVec.toNat_shiftLeft, BitVec.toNat_ofNat, Nat.shiftLeft_eq]
  simp
@[go_sem high] theorem op_shr64 (yk : IntKind) (y : Int) (h0 : 0 ≤ y) (h : y < 64) : binOp .shr t (.int .u64 (iv64 a)) (.int yk y) = pure (.int .u64 (iv64 (shr64 a y.toNat))) := by
  obtain ⟨n, rfl⟩ := Int.eq_ofNat_of_zero_le h0
  rw [binOp_shr, shift_shr_u64 _ _ _ (by omega) (by omega), Int.toNat_natCast]
  simp only [iv64, shr64, BitVec.toNat_ushiftRight, Nat.shiftRight_eq_div_pow]
  simp
@[go_sem high] theorem op_eql64 : binOp .eql t (.int .u64 (iv64 a)) (.int .u64 (iv64 b)) = pure (.bool (a == b)) := by
  rw [binOp_eql]
  have : (iv64 a == iv64 b) = (a == b) := by rw [Bool.eq_iff_iff, beq_iff_eq, beq_iff_eq, iv64_inj]
  rw [this]
@[go_sem high] theorem op_eqz64 : binOp .eql t (.int .u64 (iv64 a)) (.int .u64 0) = pure (.bool (a == 0)) := op_eql64 t a 0
@[go_sem high] theorem op_nez64 : binOp .neq t (.int .u64 (iv64 a)) (.int .u64 0) = pure (.bool (!(a == 0))) := by
  rw [binOp_neq]
  have : (iv64 a == 0) = (a == 0) := by
    have h := @iv64_inj a 0
    rw [Bool.eq_iff_iff, beq_iff_eq, beq_iff_eq, ← h]; rfl
  show pure (Value.bool (!(iv64 a == 0))) = _
  rw [this]
end

theorem dec_lo (k : Nat) (h : k < 10) : Lib.decDigits k = [UInt8.ofNat (48 + k)] := by rw [Lib.decDigits, dif_pos h]
theorem dec_hi (k : Nat) (h : 10 ≤ k) (h2 : k < 100) : Lib.decDigits k = [UInt8.ofNat (48 + k / 10), UInt8.ofNat (48 + k % 10)] := by
  rw [Lib.decDigits, dif_neg (by omega), dec_lo (k / 10) (by omega)]; rfl
end Go.Proofs.YtijkdabmegbcjaaGreatDoor
namespace Go.Proofs.YtijkdabmegbcjaaGreatDoor
open Go.RowKit

theorem run_part_int {P : Program} (e : TypeId) (q q' : IntKind) (l : List Int) (k : Nat) (w : World) (he : P.underlying e = some (.int q')) (hk : k < l.length) : (part e (l.map (Value.int q)).toArray k).run P w = .ok (.int q l[k]) w := by
  have hagg : (isAgg e).run P w = .ok false w := by
    unfold isAgg
    rw [Sem.run_bind, run_underlying he w]
    rfl
  simp [part, hagg, Sem.run_bind, hk]
/-- Two arrays of integers are compared. -/
theorem run_eqItems_ints {P : Program} (d : Nat) (e : TypeId) (q q' : IntKind) (l l' : List Int) (w : World) (he : P.underlying e = some (.int q')) (hl : l.length = l'.length) :
    ∀ (m k : Nat), k + m = l.length → (Op.eqItems (d + 1) e 1 (l.map (Value.int q)).toArray (l'.map (Value.int q)).toArray (List.range' k m)).run P w = .ok (decide (l.drop k = l'.drop k)) w
  | 0, k, h => by
    rw [List.drop_eq_nil_of_le (by omega), List.drop_eq_nil_of_le (by omega)]
    simp [Op.eqItems]
  | m + 1, k, h => by
    have hk : k < l.length := by omega
    have hk' : k < l'.length := by omega
    have ih := run_eqItems_ints d e q q' l l' w he hl m (k + 1) (by omega)
    have h1 := run_part_int e q q' l k w he hk
    have h2 := run_part_int e q q' l' k w he hk'
    have h3 := run_equalIn_int (P := P) w d e q q' l[k] l'[k] he
    have hd : decide (l.drop k = l'.drop k) = (l[k] == l'[k] && decide (l.drop (k + 1) = l'.drop (k + 1))) := by
      rw [List.drop_eq_getElem_cons hk, List.drop_eq_getElem_cons hk', Bool.eq_iff_iff, decide_eq_true_iff, Bool.and_eq_true, beq_iff_eq, decide_eq_true_iff, List.cons.injEq]
    simp only [List.range'_succ, Op.eqItems, Sem.run_bind, Nat.mul_one, h1, h2, h3, Result.andThen_ok]
    rw [hd]
    by_cases c : l[k] = l'[k]
    · simp [c, ih]
    · simp [c]
end Go.Proofs.YtijkdabmegbcjaaGreatDoor
namespace Go.Proofs.YtijkdabmegbcjaaGreatDoor
open Go.RowKit

theorem rowAt_new {q : IntKind} (w : World) (T : TypeId) (zs : List Int) : RowAt q (w.alloc (.cells (zs.map (Value.int q)).toArray T)) (some ⟨w.heap.size, 0, none⟩) zs := fun i hi =>
  ⟨_, _, rfl, by have h := (Blk.new (q := q) w T zs).cell i hi; rw [Nat.zero_add]; exact h⟩
theorem own_keep {w w' : World} {base : Nat} {e : TypeId} {size : Nat} {v : Value} {n : Nat} {xs : List Value} (h : w.ownsRow base e size v n xs) (hb : Below w.heap.size w w') : w'.ownsRow base e size v n xs :=
  h.kept ⟨hb.os, hb.tape, hb.output, hb.size, fun k hk _ => hb.block k hk⟩ (row := none) (by cases v.ownBlock <;> simp)
theorem RowAt.only {q : IntKind} {w w' : World} {a : Option Addr} {zs : List Int} {O : Nat → Prop} (h : RowAt q w a zs) (ho : Only O w w') (ha : ∀ x, a = some x → ¬ O x.block) : RowAt q w' a zs := fun i hi => by
  obtain ⟨b, o, h1, h2⟩ := h i hi
  exact ⟨b, o, h1, ho.cell h2 (ha ⟨b, o, none⟩ h1)⟩
end Go.Proofs.YtijkdabmegbcjaaGreatDoor
namespace Go.Proofs.YtijkdabmegbcjaaGreatDoor
open Go.RowKit

theorem run_append_own_blk {P : Program} (w : World) (base : Nat) (t ty e : TypeId) (i : TypeInfo) (z : Value) (bytes : Nat) (ht : P.underlying t = some (.slice e)) (hi : P.info? e = some i) (hz : i.zero = some z)
    (hsize : i.size = 1) (hby : i.bytes = bytes) (hzs : z.cells.size = 1) (v : Value) (n : Nat) (xs : List Value) (hown : w.ownsRow base e 1 v n xs)
    (a : Addr) (m c : Nat) (news : List Value) (hl : news.length = m) (hnews : ∀ j u, news[j]? = some u → w.cell? (a.add j) = some u) (h1 : ∀ u ∈ news, u.oneCell' = true)
    (h63 : n + m ≤ maxLen) (hbytes : (n + m) * bytes ≤ 140737488355328) (hbase : base ≤ w.heap.size) :
    ∃ v' w', (Builtin.append_ #[t, t] ty #[v, .slice (some a) m c]).run P w = .ok v' w' ∧ w'.ownsRow base e 1 v' (n + m) (xs ++ news) ∧ w.grownBy w' v.ownBlock ∧
      (v'.ownBlock = v.ownBlock ∨ ∀ k, v'.ownBlock = some k → w.heap.size ≤ k) := by
  obtain ⟨v', w', hr, ho, hg, -⟩ := run_append_own (P := P) w base t ty e i z 1 bytes ht hi hz hsize hby hzs (by decide) v n xs hown a m c news (by rw [hl, Nat.mul_one]) hnews h1 h63 hbytes hbase
  refine ⟨v', w', hr, ho, hg, ?_⟩
  rcases hown.2 with ⟨rfl, rfl⟩ | ⟨g, cap, cur, rfl, hbg, hgg, hnc, hcm, hcs, htake⟩
  · obtain ⟨v2, w2, hr2, ho2, -, -⟩ := run_append_own (P := P) w w.heap.size t ty e i z 1 bytes ht hi hz hsize hby hzs (by decide) (.slice none 0 0) 0 [] (World.ownsRow_nil _ _ _ _) a m c news (by rw [hl, Nat.mul_one]) hnews h1 (by simpa using h63) (by simpa using hbytes) (Nat.le_refl _)
    rw [hr] at hr2
    obtain ⟨rfl, rfl⟩ : v' = v2 ∧ w' = w2 := by injection hr2; exact ⟨by assumption, by assumption⟩
    exact .inr fun k hk => (ho2.lt k hk).1
  · by_cases hroom : n + m ≤ cap
    · have hcells : ∀ j, j < cur.size → w.cell? ⟨g, j, none⟩ = cur[j]? := fun j _ => by rw [cell_of_row w g j cur e (0, 0) hgg]
      have hr2 := run_append_room_cells (P := P) w t ty e i ht hi g 0 n cap a m c news (by rw [hsize, hl, Nat.mul_one]) hnews h1 hroom (fun j hj => by
        have hlt : 0 + n * i.size + j < cur.size := by rw [hsize]; omega
        rw [hcells _ hlt, Array.getElem?_eq_getElem hlt]; rfl) (fun j hj => frozen_of_row w g _ cur e hgg)
      rw [hr] at hr2
      obtain ⟨rfl, rfl⟩ : v' = .slice (some ⟨g, 0, none⟩) (n + m) cap ∧ w' = _ := by injection hr2; exact ⟨by assumption, by assumption⟩
      exact .inl rfl
    · obtain ⟨v2, w2, hr2, ho2, -⟩ := run_append_arg_grows (P := P) w t ty e i z 1 bytes ht hi hz hsize hby hzs (by decide) ⟨g, 0, none⟩ n cap xs hown.1 (fun j u hj => hown.cells (g := g) rfl j u hj) a m c news (by rw [hl, Nat.mul_one]) hnews (by omega) h63 hbytes
      rw [hr] at hr2
      obtain ⟨rfl, rfl⟩ : v' = v2 ∧ w' = w2 := by injection hr2; exact ⟨by assumption, by assumption⟩
      exact .inr fun k hk => (ho2.lt k hk).1

theorem wpListIn_append_blk {F : Fence} {N : Nat} {P : Program} (w : World) {ops : Array Oper} {rest : List Oper} {o : Oper} {ac : Act} {Q : Exit → Act → World → Prop} (hgd : o.guard = none) (s x : Operand) (t : TypeId)
    (hop : o.op = .call { callee := .builtin .append, args := #[s, x], argTypes := #[t, t] })
    (base : Nat) (e : TypeId) (i : TypeInfo) (z : Value) (bytes : Nat) (ht : P.underlying t = some (.slice e)) (hi : P.info? e = some i) (hz : i.zero = some z)
    (hsize : i.size = 1) (hby : i.bytes = bytes) (hzs : z.cells.size = 1) (v : Value) (n : Nat) (xs : List Value) (hs : ac.eval s = v) (hown : w.ownsRow base e 1 v n xs)
    (a : Addr) (m c : Nat) (news : List Value) (hx : ac.eval x = .slice (some a) m c) (hl : news.length = m) (hnews : ∀ j u, news[j]? = some u → w.cell? (a.add j) = some u) (h1 : ∀ u ∈ news, u.oneCell' = true)
    (h63 : n + m ≤ maxLen) (hbytes : (n + m) * bytes ≤ 140737488355328) (hbase : base ≤ w.heap.size)
    (hK : ∀ v' w', w'.ownsRow base e 1 v' (n + m) (xs ++ news) → w.grownBy w' v.ownBlock → (v'.ownBlock = v.ownBlock ∨ ∀ k, v'.ownBlock = some k → w.heap.size ≤ k) → wpListIn F N P ops Q rest (ac.put o.dst v') w') : wpListIn F N P ops Q (o :: rest) ac w := by
  refine wpListIn_plain hgd fun K hK' => ?_
  obtain ⟨v', w', hrun, r1, r2, r3⟩ := run_append_own_blk (P := P) w base t o.type e i z bytes ht hi hz hsize hby hzs v n xs hown a m c news hl hnews h1 h63 hbytes hbase
  unfold Oper.wpIn
  refine ⟨?_, ?_⟩
  · simp [Oper.about, hop, resolve, Target.leads, Sem.run_pure]
  · rw [Oper.semAt_plain F _ _ (by rw [hop]; intro c hc'; cases hc')]
    simp [execOp, hop, resolve, invoke, builtin, hs, hx, hrun, Result.andThen]
    exact hK' _ _ (hK v' w' r1 r2 r3)

end Go.Proofs.YtijkdabmegbcjaaGreatDoor
namespace Go.Proofs.YtijkdabmegbcjaaGreatDoor
open Go.RowKit

/-- T of each operation, numbered from k on. -/
def OpsAll (T : Nat → Oper → Prop) : List Oper → Nat → Prop
  | [], _ => True
  | o :: r, k => T k o ∧ OpsAll T r (k + 1)
theorem OpsAll.get {T : Nat → Oper → Prop} : ∀ {l : List Oper} {k : Nat}, OpsAll T l k → ∀ (i : Nat) (o : Oper), l[i]? = some o → T (k + i) o
  | [], _, _, _, _, h => by simp at h
  | x :: r, k, h, 0, o, ho => by
    have : x = o := by simpa using ho
    subst this; exact h.1
  | x :: r, k, h, i + 1, o, ho => by
    have := OpsAll.get h.2 i o (by simpa using ho)
    rwa [show k + 1 + i = k + (i + 1) by omega] at this

/-- What an operation waits for. -/
def waitsFor (o : Oper) : List Nat := o.after.toList.filterMap fun e => if Region.binds .any e then some e.on else none
/-- Each operation waits for earlier ones alone, and none is guarded. -/
def plainOps (l : List Oper) : Bool := (l.zipIdx).all fun p => p.1.guard.isNone && p.1.after.all fun e => decide (e.on < p.2)
theorem plainOps_get {l : List Oper} (h : plainOps l = true) (i : Nat) (o : Oper) (ho : l[i]? = some o) : o.guard = none ∧ ∀ e ∈ o.after, e.on < i := by
  have := List.all_eq_true.1 h (o, i) (by rw [List.mem_iff_getElem?]; exact ⟨i, by simp [ho]⟩)
  simp only [Bool.and_eq_true, Option.isNone_iff_eq_none, Array.all_eq_true, decide_eq_true_eq] at this
  refine ⟨this.1, fun e he => ?_⟩
  obtain ⟨j, hj, rfl⟩ := Array.mem_iff_getElem.1 he
  exact this.2 j hj

theorem countP_lt_of {α : Type} {p q : α → Bool} {i : α} : ∀ {l : List α}, i ∈ l → p i = true → q i = false → (∀ j, q j = true → p j = true) → l.countP q < l.countP p
  | [], h, _, _, _ => by simp at h
  | x :: r, h, hp, hq, hm => by
    have hle : r.countP q ≤ r.countP p := List.countP_mono_left fun j _ hj => hm j hj
    rcases List.mem_cons.1 h with rfl | h
    · rw [List.countP_cons, List.countP_cons, hp, hq]; simp; omega
    · have := countP_lt_of h hp hq hm
      rw [List.countP_cons, List.countP_cons]
      have := hm x
      by_cases hx : q x = true
      · rw [if_pos hx, if_pos (hm x hx)]; omega
      · rw [if_neg hx]; omega

/-- The set d and i. -/
def also (d : Nat → Bool) (i : Nat) : Nat → Bool := fun j => j == i || d j

theorem wp_region_inv {P : Program} {id : Nat} {ops : Array Oper} {Q : Exit → Act → World → Prop} {a : Act} {w : World} (hm : P.follows .mixedOrders = true) (hp : plainOps ops.toList = true)
    (I : (Nat → Bool) → Act → World → Prop) (h0 : I (fun _ => false) a w.drew)
    (hs : OpsAll (fun i o => ∀ (d : Nat → Bool) (a : Act) (w : World), d i = false → (waitsFor o).all d = true → I d a w → o.wp P a w (I (also d i)) Q) ops.toList 0)
    (hd : ∀ (d : Nat → Bool) (a : Act) (w : World), (List.range ops.size).all d = true → I d a w → Q .normal a w) : (Code.region id ops true).wp P Q a w := by
  refine wp_region_any hm ?_
  have key : ∀ (fuel : Nat) (listed : Array Bool) (a : Act) (w : World), listed.size = ops.size → I (fun j => listed.getD j false) a w → (List.range ops.size).countP (fun i => !listed.getD i true) ≤ fuel → wpAny P .any ops Q fuel listed a w := by
    intro fuel
    have two : ∀ (listed : Array Bool) (i : Nat), listed.size = ops.size → i < ops.size → listed.getD i true = listed.getD i false := by
      intro listed i hl hi
      have hin : i < listed.size := by omega
      simp [Array.getD, hin]
    induction fuel with
    | zero =>
      intro listed a w hl hI hc
      have hall : ∀ i, i < ops.size → listed.getD i true = true := by
        intro i hi
        have := List.countP_eq_zero.1 (Nat.le_zero.1 hc) i (List.mem_range.2 hi)
        simpa using this
      refine ⟨?_, hd _ a w (List.all_eq_true.2 fun i hi => ?_) hI⟩
      · refine List.filter_eq_nil_iff.2 fun i hi => ?_
        simp [hall i (List.mem_range.1 hi)]
      · rw [← two listed i hl (List.mem_range.1 hi)]
        exact hall i (List.mem_range.1 hi)
    | succ fuel ih =>
      intro listed a w hl hI hc
      refine ⟨fun hr => ?_, fun i hi => ?_⟩
      · have hall : ∀ n i, i < n → i < ops.size → listed.getD i true = true := by
          intro n
          induction n with
          | zero => intro i h; omega
          | succ n ihn =>
            intro i h hi
            have hno := List.filter_eq_nil_iff.1 hr i (List.mem_range.2 hi)
            have ho : ops.toList[i]? = some ops[i] := by simp [hi]
            have hp2 := (plainOps_get hp i _ ho).2
            by_cases hx : listed.getD i true = true
            · exact hx
            · exfalso
              refine hno ?_
              have hx' : listed.getD i true = false := by simpa using hx
              rw [hx']
              simp only [Bool.not_false, Bool.true_and]
              rw [show ops[i]? = some ops[i] by simp [hi]]
              simp only [Option.map_some, Option.getD_some]
              rw [Array.all_eq_true]
              intro j hj
              have hlt := hp2 _ (Array.getElem_mem hj)
              have h9 := ihn (ops[i].after[j]).on (by omega) (by omega)
              rw [two listed _ hl (by omega)] at h9
              rw [h9]; simp
        exact hd _ a w (List.all_eq_true.2 fun i hi => by rw [← two listed i hl (List.mem_range.1 hi)]; exact hall (i + 1) i (by omega) (List.mem_range.1 hi)) hI
      · obtain ⟨hun, o, ho, hall⟩ := mem_ready.1 hi
        have hlt : i < ops.size := (Array.getElem?_eq_some_iff.1 ho).1
        have hltl : i < listed.size := by omega
        have ho' : ops.toList[i]? = some o := by simpa using ho
        unfold wpOp
        rw [ho]
        have hg := (plainOps_get hp i o ho').1
        have hw : Region.wanted o (yielded ops a.tmps) = true := by simp [Region.wanted, hg]
        simp only [hw, if_true]
        refine .inl ?_
        have hstep := OpsAll.get hs i o ho'
        rw [Nat.zero_add] at hstep
        refine Oper.wp_mono ?_ (hstep (fun j => listed.getD j false) a w (by rw [← two listed i hl hlt]; exact hun) ?_ hI)
        · intro a' w' hK
          refine ih (listed.setIfInBounds i true) a' w' (by simpa using hl) ?_ ?_
          · have : (fun j => (listed.setIfInBounds i true).getD j false) = also (fun j => listed.getD j false) i := by
              funext j
              unfold also
              by_cases e : j = i
              · subst e; simp [Array.getD, hltl]
              · rw [getD_set_ne false (Ne.symm e)]; simp [e]
            rw [this]; exact hK
          · have hlt2 : (List.range ops.size).countP (fun j => !(listed.setIfInBounds i true).getD j true) < (List.range ops.size).countP (fun j => !listed.getD j true) := by
              refine countP_lt_of (i := i) (List.mem_range.2 hlt) (by simp [hun]) (by simp [Array.getD, hltl]) ?_
              intro j hj
              by_cases e : j = i
              · subst e; simp [Array.getD, hltl] at hj
              · rw [getD_set_ne true (Ne.symm e)] at hj; exact hj
            omega
        · refine List.all_eq_true.2 fun x hx => ?_
          obtain ⟨e, he, hex⟩ := List.mem_filterMap.1 hx
          split at hex
          · rename_i hb
            have : e.on = x := by simpa using hex
            subst this
            exact hall e (by simpa using he) hb
          · simp at hex
  refine key _ _ _ _ (by simp) ?_ ?_
  · have : (fun j => (Array.replicate ops.size false).getD j false) = fun _ => false := by
      funext j
      by_cases h : j < ops.size <;> simp [Array.getD, h]
    rw [this]; exact h0
  · exact Nat.le_trans List.countP_le_length (by simp)

end Go.Proofs.YtijkdabmegbcjaaGreatDoor
