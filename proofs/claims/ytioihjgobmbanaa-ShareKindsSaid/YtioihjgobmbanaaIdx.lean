/- An array by value is indexed. -/
import Derived.Test.YtioihjgobmbanaaArr
import Derived.ChangeKeysEq
import Derived.Laws.StructEq
namespace Go.Proofs.Ytioihjgobmbanaa
open Go.RowKit

theorem run_index_ints {P : Program} (T e : TypeId) (n : Nat) (q q' : IntKind) (l : List Int) (k : Nat) (w : World) (hT : P.underlying T = some (.array n e)) (he : P.underlying e = some (.int q')) (hs : (P.info? e).map (·.size) = some 1)
    (hk : k < l.length) (hn : k < n) : (Instr.index T (.agg (l.map (Value.int q)).toArray) (.int .i64 k)).run P w = .ok (.int q l[k]) w := by
  obtain ⟨i, hi, hs1⟩ := Option.map_eq_some_iff.1 hs
  have hlt : (k : Int) < (n : Int) := by omega
  have hagg : (isAgg e).run P w = .ok false w := by
    unfold isAgg
    rw [Sem.run_bind, run_underlying he w]
    rfl
  simp [Instr.index, asIntOf, Sem.run_bind, run_underlying hT, hlt, sizeOf, typeInfo, hi, hs1, part, hagg, hk]
  omega
theorem run_part_int {P : Program} (e : TypeId) (q q' : IntKind) (l : List Int) (k : Nat) (w : World) (he : P.underlying e = some (.int q')) (hk : k < l.length) : (part e (l.map (Value.int q)).toArray k).run P w = .ok (.int q l[k]) w := by
  have hagg : (isAgg e).run P w = .ok false w := by
    unfold isAgg
    rw [Sem.run_bind, run_underlying he w]
    rfl
  simp [part, hagg, Sem.run_bind, hk]
/-- Two arrays of integers are compared. -/
theorem run_eqItems_ints {P : Program} (d : Nat) (e : TypeId) (q q' : IntKind) (l l' : List Int) (w : World) (he : P.underlying e = some (.int q')) (hl : l.length = l'.length) :
    ∀ (m k : Nat), k + m = l.length → (Op.eqItems (d + 1) e 1 (l.map (Value.int q)).toArray (l'.map (Value.int q)).toArray (List.range' k m)).run P w = .ok (decide (l.drop k = l'.drop k)) w
  | 0, k, h => by
    rw [List.drop_eq_nil_of_le (by omega), List.drop_eq_nil_of_le (by omega)]
    simp [Op.eqItems]
  | m + 1, k, h => by
    have hk : k < l.length := by omega
    have hk' : k < l'.length := by omega
    have ih := run_eqItems_ints d e q q' l l' w he hl m (k + 1) (by omega)
    have h1 := run_part_int e q q' l k w he hk
    have h2 := run_part_int e q q' l' k w he hk'
    have h3 := run_equalIn_int (P := P) w d e q q' l[k] l'[k] he
    have hd : decide (l.drop k = l'.drop k) = (l[k] == l'[k] && decide (l.drop (k + 1) = l'.drop (k + 1))) := by
      rw [List.drop_eq_getElem_cons hk, List.drop_eq_getElem_cons hk', Bool.eq_iff_iff, decide_eq_true_iff, Bool.and_eq_true, beq_iff_eq, decide_eq_true_iff, List.cons.injEq]
    simp only [List.range'_succ, Op.eqItems, Sem.run_bind, Nat.mul_one, h1, h2, h3, Result.andThen_ok]
    rw [hd]
    by_cases c : l[k] = l'[k]
    · simp [c, ih]
    · simp [c]
theorem run_eql_ints {P : Program} (T e : TypeId) (n : Nat) (q q' : IntKind) (l l' : List Int) (w : World) (hT : P.underlying T = some (.array n e)) (he : P.underlying e = some (.int q')) (hs : (P.info? e).isSome = true) (hc : P.cellsOf e = 1)
    (hn : l.length = n) (hn' : l'.length = n) : (binOp .eql T (.agg (l.map (Value.int q)).toArray) (.agg (l'.map (Value.int q)).toArray)).run P w = .ok (.bool (decide (l = l'))) w := by
  obtain ⟨i, hi⟩ := Option.isSome_iff_exists.1 hs
  rw [run_eql_struct, show (10000 : Nat) = 9999 + 1 from rfl, run_equalIn_array w 9999 _ _ hT hi, hc, List.range_eq_range', run_eqItems_ints 9998 e q q' l l' w he (by omega) n 0 (by omega)]
  simp
end Go.Proofs.Ytioihjgobmbanaa
