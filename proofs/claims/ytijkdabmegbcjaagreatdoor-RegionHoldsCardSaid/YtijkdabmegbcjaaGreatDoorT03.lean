/- Texts of this claim, merged; no condition. -/
import Derived.Test.YtijkdabmegbcjaaGreatDoorT02
import Derived.Lib.AppendZerosOnto
import Derived.Lib.AppendZeros
import Derived.Test.YtijkdabmegbcjaaGreatDoorT00
import Derived.Deep.MidRow
import Derived.Lib.TrailingZeros
import Derived.Lib.ItoaNum
import Derived.Lib.Join
import Derived.Test.YtijkdabmegbcjaaGreatDoorTA
set_option linter.all false
namespace Go.Proofs.YtijkdabmegbcjaaGreatDoor
section
structure InfoN where
  name : List UInt8
  ins : Nat
  outs : Nat
  gas : Nat
  quiet : Bool
  size : Nat
  deriving DecidableEq
def noInfo : InfoN := ⟨[], 0, 0, 0, false, 0⟩
def infoV (x : InfoN) : Value := .agg #[.string ⟨x.name.toArray⟩, .int .i64 x.ins, .int .i64 x.outs, .int .u64 x.gas, .bool x.quiet, .int .i64 x.size]
def rowGet (c : Nat) : List (Nat × InfoN) → InfoN
  | [] => noInfo
  | x :: l => if c = x.1 then x.2 else rowGet c l
def lowRows : List (Nat × InfoN) := [
  (0, ⟨[83, 84, 79, 80], 0, 0, 0, false, 0⟩),
  (1, ⟨[65, 68, 68], 2, 1, 3, true, 0⟩),
  (2, ⟨[77, 85, 76], 2, 1, 5, true, 0⟩),
  (3, ⟨[83, 85, 66], 2, 1, 3, true, 0⟩),
  (4, ⟨[68, 73, 86], 2, 1, 5, true, 0⟩),
  (5, ⟨[83, 68, 73, 86], 2, 1, 5, true, 0⟩),
  (6, ⟨[77, 79, 68], 2, 1, 5, true, 0⟩),
  (7, ⟨[83, 77, 79, 68], 2, 1, 5, true, 0⟩),
  (8, ⟨[65, 68, 68, 77, 79, 68], 3, 1, 8, true, 0⟩),
  (9, ⟨[77, 85, 76, 77, 79, 68], 3, 1, 8, true, 0⟩),
  (10, ⟨[69, 88, 80], 2, 1, 10, false, 0⟩),
  (11, ⟨[83, 73, 71, 78, 69, 88, 84, 69, 78, 68], 2, 1, 5, true, 0⟩),
  (16, ⟨[76, 84], 2, 1, 3, true, 0⟩),
  (17, ⟨[71, 84], 2, 1, 3, true, 0⟩),
  (18, ⟨[83, 76, 84], 2, 1, 3, true, 0⟩),
  (19, ⟨[83, 71, 84], 2, 1, 3, true, 0⟩),
  (20, ⟨[69, 81], 2, 1, 3, true, 0⟩),
  (21, ⟨[73, 83, 90, 69, 82, 79], 1, 1, 3, true, 0⟩),
  (22, ⟨[65, 78, 68], 2, 1, 3, true, 0⟩),
  (23, ⟨[79, 82], 2, 1, 3, true, 0⟩),
  (24, ⟨[88, 79, 82], 2, 1, 3, true, 0⟩),
  (25, ⟨[78, 79, 84], 1, 1, 3, true, 0⟩),
  (26, ⟨[66, 89, 84, 69], 2, 1, 3, true, 0⟩),
  (27, ⟨[83, 72, 76], 2, 1, 3, true, 0⟩),
  (28, ⟨[83, 72, 82], 2, 1, 3, true, 0⟩)]
def middleRows : List (Nat × InfoN) := [
  (29, ⟨[83, 65, 82], 2, 1, 3, true, 0⟩),
  (32, ⟨[75, 69, 67, 67, 65, 75, 50, 53, 54], 2, 1, 30, false, 0⟩),
  (48, ⟨[65, 68, 68, 82, 69, 83, 83], 0, 1, 2, true, 0⟩),
  (49, ⟨[66, 65, 76, 65, 78, 67, 69], 1, 1, 0, false, 0⟩),
  (50, ⟨[79, 82, 73, 71, 73, 78], 0, 1, 2, true, 0⟩),
  (51, ⟨[67, 65, 76, 76, 69, 82], 0, 1, 2, true, 0⟩),
  (52, ⟨[67, 65, 76, 76, 86, 65, 76, 85, 69], 0, 1, 2, true, 0⟩),
  (53, ⟨[67, 65, 76, 76, 68, 65, 84, 65, 76, 79, 65, 68], 1, 1, 3, false, 0⟩),
  (54, ⟨[67, 65, 76, 76, 68, 65, 84, 65, 83, 73, 90, 69], 0, 1, 2, true, 0⟩),
  (55, ⟨[67, 65, 76, 76, 68, 65, 84, 65, 67, 79, 80, 89], 3, 0, 3, false, 0⟩),
  (56, ⟨[67, 79, 68, 69, 83, 73, 90, 69], 0, 1, 2, true, 0⟩),
  (57, ⟨[67, 79, 68, 69, 67, 79, 80, 89], 3, 0, 3, false, 0⟩),
  (58, ⟨[71, 65, 83, 80, 82, 73, 67, 69], 0, 1, 2, true, 0⟩),
  (59, ⟨[69, 88, 84, 67, 79, 68, 69, 83, 73, 90, 69], 1, 1, 0, false, 0⟩),
  (60, ⟨[69, 88, 84, 67, 79, 68, 69, 67, 79, 80, 89], 4, 0, 0, false, 0⟩),
  (61, ⟨[82, 69, 84, 85, 82, 78, 68, 65, 84, 65, 83, 73, 90, 69], 0, 1, 2, true, 0⟩),
  (62, ⟨[82, 69, 84, 85, 82, 78, 68, 65, 84, 65, 67, 79, 80, 89], 3, 0, 3, false, 0⟩),
  (63, ⟨[69, 88, 84, 67, 79, 68, 69, 72, 65, 83, 72], 1, 1, 0, false, 0⟩),
  (64, ⟨[66, 76, 79, 67, 75, 72, 65, 83, 72], 1, 1, 20, false, 0⟩),
  (65, ⟨[67, 79, 73, 78, 66, 65, 83, 69], 0, 1, 2, true, 0⟩),
  (66, ⟨[84, 73, 77, 69, 83, 84, 65, 77, 80], 0, 1, 2, true, 0⟩),
  (67, ⟨[78, 85, 77, 66, 69, 82], 0, 1, 2, true, 0⟩),
  (68, ⟨[80, 82, 69, 86, 82, 65, 78, 68, 65, 79], 0, 1, 2, true, 0⟩),
  (69, ⟨[71, 65, 83, 76, 73, 77, 73, 84], 0, 1, 2, true, 0⟩),
  (70, ⟨[67, 72, 65, 73, 78, 73, 68], 0, 1, 2, true, 0⟩)]
def highRows : List (Nat × InfoN) := [
  (71, ⟨[83, 69, 76, 70, 66, 65, 76, 65, 78, 67, 69], 0, 1, 5, false, 0⟩),
  (72, ⟨[66, 65, 83, 69, 70, 69, 69], 0, 1, 2, true, 0⟩),
  (80, ⟨[80, 79, 80], 1, 0, 2, true, 0⟩),
  (81, ⟨[77, 76, 79, 65, 68], 1, 1, 3, false, 0⟩),
  (82, ⟨[77, 83, 84, 79, 82, 69], 2, 0, 3, false, 0⟩),
  (83, ⟨[77, 83, 84, 79, 82, 69, 56], 2, 0, 3, false, 0⟩),
  (84, ⟨[83, 76, 79, 65, 68], 1, 1, 0, false, 0⟩),
  (85, ⟨[83, 83, 84, 79, 82, 69], 2, 0, 0, false, 0⟩),
  (86, ⟨[74, 85, 77, 80], 1, 0, 8, false, 0⟩),
  (87, ⟨[74, 85, 77, 80, 73], 2, 0, 10, false, 0⟩),
  (88, ⟨[80, 67], 0, 1, 2, true, 0⟩),
  (89, ⟨[77, 83, 73, 90, 69], 0, 1, 2, true, 0⟩),
  (90, ⟨[71, 65, 83], 0, 1, 2, false, 0⟩),
  (91, ⟨[74, 85, 77, 80, 68, 69, 83, 84], 0, 0, 1, true, 0⟩),
  (95, ⟨[80, 85, 83, 72, 48], 0, 1, 2, true, 0⟩),
  (240, ⟨[67, 82, 69, 65, 84, 69], 3, 1, 32000, false, 0⟩),
  (241, ⟨[67, 65, 76, 76], 7, 1, 0, false, 0⟩),
  (242, ⟨[67, 65, 76, 76, 67, 79, 68, 69], 7, 1, 0, false, 0⟩),
  (243, ⟨[82, 69, 84, 85, 82, 78], 2, 0, 0, false, 0⟩),
  (244, ⟨[68, 69, 76, 69, 71, 65, 84, 69, 67, 65, 76, 76], 6, 1, 0, false, 0⟩),
  (245, ⟨[67, 82, 69, 65, 84, 69, 50], 4, 1, 32000, false, 0⟩),
  (250, ⟨[83, 84, 65, 84, 73, 67, 67, 65, 76, 76], 6, 1, 0, false, 0⟩),
  (253, ⟨[82, 69, 86, 69, 82, 84], 2, 0, 0, false, 0⟩),
  (254, ⟨[73, 78, 86, 65, 76, 73, 68], 0, 0, 0, false, 0⟩),
  (255, ⟨[83, 69, 76, 70, 68, 69, 83, 84, 82, 85, 67, 84], 1, 0, 5000, false, 0⟩)]
def digN (n : Nat) : List UInt8 := if n < 10 then [UInt8.ofNat (48 + n)] else [UInt8.ofNat (48 + n / 10), UInt8.ofNat (48 + n % 10)]
def famN (c : Nat) : Option InfoN :=
  if 96 ≤ c ∧ c ≤ 127 then some ⟨[80, 85, 83, 72] ++ digN (c - 95), 0, 1, 3, true, c - 95⟩
  else if 128 ≤ c ∧ c ≤ 143 then some ⟨[68, 85, 80] ++ digN (c - 127), c - 127, c - 126, 3, true, 0⟩
  else if 144 ≤ c ∧ c ≤ 159 then some ⟨[83, 87, 65, 80] ++ digN (c - 143), c - 142, c - 142, 3, true, 0⟩
  else if 160 ≤ c ∧ c ≤ 164 then some ⟨[76, 79, 71] ++ digN (c - 160), c - 158, 0, 375 * (c - 159), false, 0⟩
  else none
def infoN (c : Nat) : InfoN := match famN c with | some x => x | none => rowGet c (lowRows ++ middleRows ++ highRows)
theorem info_ref : ∀ c : Nat, c < 256 → famN c = none → infoN c = if (rowGet c lowRows).name ≠ [] then rowGet c lowRows else if (rowGet c middleRows).name ≠ [] then rowGet c middleRows else rowGet c highRows := by decide +kernel
theorem info_named : ∀ c : Nat, c < 256 → (infoN c).name.isEmpty = !namedN c := by decide +kernel
theorem info_size : ∀ c : Nat, c < 256 → (infoN c).size = szN c := by decide +kernel
theorem info_small : ∀ c : Nat, c < 256 → (infoN c).ins ≤ 17 ∧ (infoN c).outs ≤ 17 ∧ (infoN c).gas ≤ 32000 := by decide +kernel
end
section
open Go.RowKit
def RowAt (q : IntKind) (w : World) (a : Option Addr) (zs : List Int) : Prop :=
  ∀ i (h : i < zs.length), ∃ b o, a = some ⟨b, o, none⟩ ∧ w.cell? ⟨b, o + i, none⟩ = some (.int q zs[i])
theorem RowAt.below {q : IntKind} {w w' : World} {a : Option Addr} {zs : List Int} (h : RowAt q w a zs) (hb : Below w.heap.size w w') : RowAt q w' a zs := fun i hi => by
  obtain ⟨b, o, h1, h2⟩ := h i hi
  exact ⟨b, o, h1, cbel hb h2⟩
theorem RowAt.nil {q : IntKind} {w : World} {a : Option Addr} : RowAt q w a [] := fun i hi => absurd hi (by simp)
theorem run_append_row {P : Program} (w : World) (base : Nat) (t ty e : TypeId) (i : TypeInfo) (z : Value) (bytes : Nat) (ht : P.underlying t = some (.slice e)) (hi : P.info? e = some i) (hz : i.zero = some z)
    (hsize : i.size = 1) (hby : i.bytes = bytes) (hzs : z.cells.size = 1) (v : Value) (n : Nat) (xs : List Value) (hown : w.ownsRow base e 1 v n xs)
    (a : Option Addr) (c : Nat) (hn : a = none → c = 0) (q : IntKind) (zs : List Int) (hr : RowAt q w a zs) (h63 : n + zs.length ≤ maxLen) (hbytes : (n + zs.length) * bytes ≤ 140737488355328) (hbase : base ≤ w.heap.size) :
    ∃ v' w', (Builtin.append_ #[t, t] ty #[v, .slice a zs.length c]).run P w = .ok v' w' ∧ w'.ownsRow base e 1 v' (n + zs.length) (xs ++ zs.map (Value.int q)) ∧ w.grownBy w' v.ownBlock := by
  cases a with
  | none =>
    have h0 : zs = [] := by
      cases zs with
      | nil => rfl
      | cons x l => obtain ⟨b, o, h1, _⟩ := hr 0 (by simp); cases h1
    subst h0
    obtain rfl := hn rfl
    exact ⟨v, w, run_append_owned_none w base t ty e i 1 ht hi v n xs hown, by simpa using hown, World.grownBy.refl _ _⟩
  | some x =>
    obtain ⟨v', w', h1, h2, h3, _⟩ := run_append_own (P := P) (w := w) base t ty e i z 1 bytes ht hi hz hsize hby hzs (by decide) v n xs hown x zs.length c (zs.map (Value.int q)) (by simp) (by
      intro j u hj
      rw [List.getElem?_map] at hj
      obtain ⟨y, hy, rfl⟩ := Option.map_eq_some_iff.1 hj
      obtain ⟨hlt, rfl⟩ := List.getElem?_eq_some_iff.1 hy
      obtain ⟨b, o, h1, h2⟩ := hr j hlt
      cases h1
      rw [Addr.add_lit]
      exact h2) (ints_oneCell _ _) h63 hbytes hbase
    exact ⟨v', w', h1, h2, h3⟩
theorem wpList_append_row {P : Program} (w : World) {ops : Array Oper} {rest : List Oper} {o : Oper} {ac : Act} {Q : Exit → Act → World → Prop} (hgd : o.guard = none) (s x : Operand) (t : TypeId)
    (ho : o.op = .call { callee := .builtin .append, args := #[s, x], argTypes := #[t, t] })
    (base e : TypeId) (i : TypeInfo) (z : Value) (bytes : Nat) (ht : P.underlying t = some (.slice e)) (hi : P.info? e = some i) (hz : i.zero = some z)
    (hsize : i.size = 1) (hby : i.bytes = bytes) (hzs : z.cells.size = 1) (v : Value) (n : Nat) (xs : List Value) (hs : ac.eval s = v) (hown : w.ownsRow base e 1 v n xs)
    (a : Option Addr) (c : Nat) (q : IntKind) (zs : List Int) (hx : ac.eval x = .slice a zs.length c) (hn : a = none → c = 0) (hr : RowAt q w a zs) (h63 : n + zs.length ≤ maxLen) (hbytes : (n + zs.length) * bytes ≤ 140737488355328) (hbase : base ≤ w.heap.size)
    (h : ∀ v' w', w'.ownsRow base e 1 v' (n + zs.length) (xs ++ zs.map (Value.int q)) → w.grownBy w' v.ownBlock → wpList P ops Q rest (ac.put o.dst v') w') : wpList P ops Q (o :: rest) ac w := by
  obtain ⟨v', w', h1, h2, h3⟩ := run_append_row (P := P) w base t o.type e i z bytes ht hi hz hsize hby hzs v n xs hown a c hn q zs hr h63 hbytes hbase
  exact Lib.wpList_append_run w hgd s x t t ho _ _ hs hx v' w' h1 (h v' w' h2 h3)
theorem rowAt_own {w : World} {base : Nat} {e : TypeId} {q : IntKind} {v : Value} {n : Nat} {zs : List Int} (h : w.ownsRow base e 1 v n (zs.map (Value.int q))) :
    ∃ a c, v = .slice a zs.length c ∧ RowAt q w a zs ∧ (a = none → c = 0) ∧ (∀ x, a = some x → base ≤ x.block) ∧ n = zs.length := by
  have hlen := h.1
  simp at hlen
  rcases h.2 with ⟨rfl, rfl⟩ | ⟨g, cap, cur, rfl, hg, _⟩
  · have : zs = [] := List.length_eq_zero_iff.1 hlen
    subst this
    exact ⟨none, 0, rfl, RowAt.nil, fun _ => rfl, by simp, rfl⟩
  · refine ⟨_, cap, by rw [hlen], fun i hi => ⟨g, 0, rfl, ?_⟩, by simp, by rintro x ⟨⟩; exact hg, hlen.symm⟩
    have := h.cellAt i (by omega)
    simpa [List.getElem?_eq_getElem hi] using this
end
section
open Go.RowKit
def limb (N j : Nat) : Nat := N / 2 ^ (64 * j) % 18446744073709551616
def byteAt (N i : Nat) : Nat := N / 256 ^ i % 256
theorem limb_lt (N j : Nat) : limb N j < 18446744073709551616 := Nat.mod_lt _ (by decide)
theorem byteAt_lt (N i : Nat) : byteAt N i < 256 := Nat.mod_lt _ (by decide)
def wordL (N : Nat) : List Int := [limb N 0, limb N 1, limb N 2, limb N 3]
def wordV (N : Nat) : Value := .agg #[.int .u64 (limb N 0), .int .u64 (limb N 1), .int .u64 (limb N 2), .int .u64 (limb N 3)]
def bytesL (N : Nat) : List Int := (List.range 32).map fun j => (byteAt N (31 - j) : Int)
theorem val_limbs (N : Nat) (h : N < 2 ^ 256) : N = limb N 0 + limb N 1 * 2 ^ 64 + limb N 2 * 2 ^ 128 + limb N 3 * 2 ^ 192 := by
  unfold limb
  simp at *
  omega
def Blk (q : IntKind) (w : World) (b : Nat) (T : TypeId) (l : List Int) : Prop := w.heap[b]? = some (.cells (l.map (Value.int q)).toArray T (0, 0))
theorem Blk.cell {q : IntKind} {w : World} {b : Nat} {T : TypeId} {l : List Int} (h : Blk q w b T l) (i : Nat) (hi : i < l.length) : w.cell? ⟨b, i, none⟩ = some (.int q l[i]) := by
  rw [cell_of_row w b i _ T (0, 0) h]; simp [hi]
theorem Blk.frozen {q : IntKind} {w : World} {b : Nat} {T : TypeId} {l : List Int} (h : Blk q w b T l) (i : Nat) : w.frozen? ⟨b, i, none⟩ = false := frozen_of_row w b i _ T h
theorem Blk.lt {q : IntKind} {w : World} {b : Nat} {T : TypeId} {l : List Int} (h : Blk q w b T l) : b < w.heap.size := (Array.getElem?_eq_some_iff.1 h).1
theorem Blk.set {q : IntKind} {w : World} {b : Nat} {T : TypeId} {l : List Int} (h : Blk q w b T l) (i : Nat) (v : Int) : Blk q (w.setCell ⟨b, i, none⟩ (.int q v)) b T (l.set i v) := by
  unfold Blk at *
  rw [heap_setCell_same w b i _ T _ h]
  congr 2
  apply Array.ext'
  simp [List.map_set]
theorem Blk.other {q : IntKind} {w : World} {b : Nat} {T : TypeId} {l : List Int} (h : Blk q w b T l) (a : Addr) (v : Value) (hb : b ≠ a.block) : Blk q (w.setCell a v) b T l := (heap_setCell_other w a b v hb).trans h
theorem Blk.oth {q : IntKind} {w : World} {b : Nat} {T : TypeId} {l : List Int} (h : Blk q w b T l) {c i : Nat} (v : Value) (hb : b ≠ c) : Blk q (w.setCell ⟨c, i, none⟩ v) b T l := h.other ⟨c, i, none⟩ v hb
theorem xsetb {a w : World} (h : Below a.heap.size a w) {c i : Nat} (hp : a.heap.size ≤ c) (u : Value) : Below a.heap.size a (w.setCell ⟨c, i, none⟩ u) := h.setCell hp u
theorem Blk.alloc {q : IntKind} {w : World} {b : Nat} {T : TypeId} {l : List Int} (h : Blk q w b T l) (o : Obj) : Blk q (w.alloc o) b T l := (Below.heap_alloc w o b h.lt).trans h
theorem Blk.below {q : IntKind} {w w' : World} {b : Nat} {T : TypeId} {l : List Int} (h : Blk q w b T l) (hb : Below w.heap.size w w') : Blk q w' b T l := (hb.block b h.lt).trans h
theorem Blk.new {q : IntKind} (w : World) (T : TypeId) (l : List Int) : Blk q (w.alloc (.cells (l.map (Value.int q)).toArray T)) w.heap.size T l := by
  show (w.heap.push _)[_]? = _
  simp
theorem Blk.new' {q : IntKind} (w : World) (b : Nat) (T : TypeId) (l : List Int) (hb : b = w.heap.size) : Blk q (w.alloc (.cells (l.map (Value.int q)).toArray T)) b T l := by subst hb; exact Blk.new w T l
theorem wordL_get (N j : Nat) (h : j < (wordL N).length) : (wordL N)[j] = limb N j := by
  have : j < 4 := h
  match j, this with
  | 0, _ => rfl
  | 1, _ => rfl
  | 2, _ => rfl
  | 3, _ => rfl
theorem cases32 (k : Nat) (h : k < 32) : k = 0 ∨ k = 1 ∨ k = 2 ∨ k = 3 ∨ k = 4 ∨ k = 5 ∨ k = 6 ∨ k = 7 ∨ k = 8 ∨ k = 9 ∨ k = 10 ∨ k = 11 ∨ k = 12 ∨ k = 13 ∨ k = 14 ∨ k = 15 ∨ k = 16 ∨ k = 17 ∨ k = 18 ∨ k = 19 ∨ k = 20 ∨ k = 21 ∨ k = 22 ∨ k = 23 ∨ k = 24 ∨ k = 25 ∨ k = 26 ∨ k = 27 ∨ k = 28 ∨ k = 29 ∨ k = 30 ∨ k = 31 := by omega
theorem wordTo_succ (N k : Nat) (h : k < 32) : (wordL (N % 256 ^ k)).set (k / 8) ((limb (N % 256 ^ k) (k / 8) + byteAt N k * 2 ^ (8 * (k % 8)) : Nat) : Int) = wordL (N % 256 ^ (k + 1)) := by
  rcases cases32 k h with rfl | rfl | rfl | rfl | rfl | rfl | rfl | rfl | rfl | rfl | rfl | rfl | rfl | rfl | rfl | rfl | rfl | rfl | rfl | rfl | rfl | rfl | rfl | rfl | rfl | rfl | rfl | rfl | rfl | rfl | rfl | rfl <;> simp [wordL, limb, byteAt] <;> omega
theorem limb_small (N k : Nat) (h : k < 32) : limb (N % 256 ^ k) (k / 8) < 2 ^ (8 * (k % 8)) := by
  rcases cases32 k h with rfl | rfl | rfl | rfl | rfl | rfl | rfl | rfl | rfl | rfl | rfl | rfl | rfl | rfl | rfl | rfl | rfl | rfl | rfl | rfl | rfl | rfl | rfl | rfl | rfl | rfl | rfl | rfl | rfl | rfl | rfl | rfl <;> simp [limb] <;> omega
theorem byte_small (N k : Nat) : byteAt N k * 2 ^ (8 * (k % 8)) < 18446744073709551616 := by
  have h1 := byteAt_lt N k
  have h2 : 2 ^ (8 * (k % 8)) ≤ 2 ^ 56 := Nat.pow_le_pow_right (by decide) (by omega)
  have h3 : byteAt N k * 2 ^ (8 * (k % 8)) ≤ 255 * 2 ^ 56 := Nat.mul_le_mul (by omega) h2
  omega
theorem wordL_mod (N : Nat) : wordL (N % 256 ^ 32) = wordL N := by
  simp [wordL, limb]; omega
end
section
open Go.RowKit
theorem Blk.only {q : IntKind} {w w' : World} {b : Nat} {T : TypeId} {l : List Int} {O : Nat → Prop} (h : Blk q w b T l) (ho : Only O w w') (hb : ¬ O b) : Blk q w' b T l := (ho.same b h.lt hb).trans h
theorem wpList_load_blk {P : Program} {ops : Array Oper} {rest : List Oper} {o : Oper} {a : Act} {w : World} {Q : Exit → Act → World → Prop} (hgd : o.guard = none) (ty : TypeId) (x : Operand) (ho : o.op = .load ty x)
    (b : Nat) (hx : a.eval x = .pointer (some ⟨b, 0, none⟩)) (q : IntKind) (T : TypeId) (l : List Int) (n : Nat) (e : TypeId) (hB : Blk q w b T l) (hu : P.underlying ty = some (.array n e)) (hi : (P.info? ty).map (·.size) = some l.length)
    (h : wpList P ops Q rest (a.put o.dst (.agg (l.map (Value.int q)).toArray)) w) : wpList P ops Q (o :: rest) a w :=
  wpList_load_row hgd ty x ho b hx T _ (0, 0) _ hB hu rfl (by simpa using hi) h
theorem setCells_heap (b : Nat) : ∀ (vs : List Value) (o : Nat) (w : World) (k : Nat), k ≠ b → (w.setCells b o vs).heap[k]? = w.heap[k]?
  | [], _, _, _, _ => rfl
  | v :: vs, o, w, k, h => by
    rw [World.setCells, setCells_heap b vs (o + 1) _ k h]
    exact Below.heap_setCell w ⟨b, o, none⟩ v k h
theorem setCells_rest (b : Nat) : ∀ (vs : List Value) (o : Nat) (w : World), (w.setCells b o vs).os = w.os ∧ (w.setCells b o vs).tape = w.tape ∧ (w.setCells b o vs).output = w.output ∧ (w.setCells b o vs).heap.size = w.heap.size
  | [], _, _ => ⟨rfl, rfl, rfl, rfl⟩
  | v :: vs, o, w => by
    obtain ⟨h1, h2, h3, h4⟩ := setCells_rest b vs (o + 1) (w.setCell ⟨b, o, none⟩ v)
    exact ⟨h1, h2, h3, h4.trans (by simp [World.setCell])⟩
theorem setCells_only (b o : Nat) (vs : List Value) (w : World) : Only (· = b) w (w.setCells b o vs) := by
  obtain ⟨h1, h2, h3, h4⟩ := setCells_rest b vs o w
  exact ⟨h1, h2, h3, Nat.le_of_eq h4.symm, fun k _ hk => setCells_heap b vs o w k hk⟩
theorem setCells_blk (b : Nat) (T : TypeId) : ∀ (vs pre rest : List Value) (w : World), w.heap[b]? = some (.cells (pre ++ rest).toArray T (0, 0)) → vs.length = rest.length → (w.setCells b pre.length vs).heap[b]? = some (.cells (pre ++ vs).toArray T (0, 0))
  | [], pre, rest, w, h, hl => by
    have : rest = [] := List.length_eq_zero_iff.1 (by simpa using hl.symm)
    subst this
    exact h
  | v :: vs, pre, r :: rest, w, h, hl => by
    have h2 : (w.setCell ⟨b, pre.length, none⟩ v).heap[b]? = some (.cells ((pre ++ [v]) ++ rest).toArray T (0, 0)) := by
      rw [heap_setCell_same w b pre.length _ T _ h]
      congr 2
      apply Array.ext'
      simp
    have := setCells_blk b T vs (pre ++ [v]) rest (w.setCell ⟨b, pre.length, none⟩ v) h2 (by simpa using hl)
    rw [World.setCells]
    simpa using this
theorem Blk.there {q : IntKind} {w : World} {b : Nat} {T : TypeId} {l : List Int} (h : Blk q w b T l) : w.there b 0 l.length := fun j hj => ⟨by rw [Nat.zero_add, h.cell j hj]; rfl, by rw [Nat.zero_add]; exact h.frozen j⟩
theorem wp_store_blk {P : Program} {o : Oper} {a : Act} {w : World} {K : Act → World → Prop} {Q : Exit → Act → World → Prop} (ty : TypeId) (x y : Operand) (ho : o.op = .store ty x y)
    (b : Nat) (hx : a.eval x = .pointer (some ⟨b, 0, none⟩)) (q : IntKind) (T : TypeId) (l l' : List Int) (hB : Blk q w b T l) (hy : a.eval y = .agg (l'.map (Value.int q)).toArray) (hl : l'.length = l.length) (hi : (P.info? ty).map (·.size) = some l'.length)
    (h : ∀ w', Blk q w' b T l' → Only (· = b) w w' → K (a.put o.dst undef) w') : o.wp P a w K Q := by
  refine wp_store_mid ty x y ho b 0 _ hx hy (by simpa [hl] using hB.there) (by simpa using hi) (all_oneCell_toArray (by intro v hv; rw [List.mem_map] at hv; obtain ⟨z, _, rfl⟩ := hv; rfl)) (h _ ?_ (setCells_only _ _ _ _))
  have := setCells_blk b T (l'.map (Value.int q)) [] (l.map (Value.int q)) w (by simpa [Blk] using hB) (by simp [hl])
  simpa [Blk] using this
theorem wpList_store_blk {P : Program} {ops : Array Oper} {rest : List Oper} {o : Oper} {a : Act} {w : World} {Q : Exit → Act → World → Prop} (hgd : o.guard = none) (ty : TypeId) (x y : Operand) (ho : o.op = .store ty x y)
    (b : Nat) (hx : a.eval x = .pointer (some ⟨b, 0, none⟩)) (q : IntKind) (T : TypeId) (l l' : List Int) (hB : Blk q w b T l) (hy : a.eval y = .agg (l'.map (Value.int q)).toArray) (hl : l'.length = l.length) (hi : (P.info? ty).map (·.size) = some l'.length)
    (h : ∀ w', Blk q w' b T l' → Only (· = b) w w' → wpList P ops Q rest (a.put o.dst undef) w') : wpList P ops Q (o :: rest) a w :=
  wpList_plain hgd fun _ hK => wp_store_blk ty x y ho b hx q T l l' hB hy hl hi fun w' h1 h2 => hK _ _ (h w' h1 h2)
theorem ret_blk {P : Program} {fn : Func} {R : Ending → World → Prop} {a : Act} {w : World} {p : Tmp} {ty : TypeId} (hr : fn.results = #[.cell p ty]) (b : Nat) (q : IntKind) (T : TypeId) (l : List Int) (n : Nat) (e : TypeId)
    (hp : a.tmps.getD p undef = .pointer (some ⟨b, 0, none⟩)) (hB : Blk q w b T l) (hu : P.underlying ty = some (.array n e)) (hi : (P.info? ty).map (·.size) = some l.length) (hd : a.defers = [])
    (h : R (.returned (.agg (l.map (Value.int q)).toArray)) w) : bodyPost P fn R .ret a w :=
  bodyPost_ret (results_cell_row hr a.tmps w b T _ (0, 0) _ hp hB hu rfl (by simpa using hi)) hd h
end
section
open Go.RowKit
theorem bytesL_get (N j : Nat) (h : j < (bytesL N).length) : (bytesL N)[j] = byteAt N (31 - j) := by simp [bytesL]
theorem or_byte (x y s : Nat) (hx : x < 2 ^ s) (hx6 : x < 18446744073709551616) (hy : y * 2 ^ s < 18446744073709551616) : bits .or .u64 (x : Int) (IntKind.u64.wrap ((y : Int) * 2 ^ s)) = ((x + y * 2 ^ s : Nat) : Int) := by
  have e : ((y : Int) * 2 ^ s) = ((y * 2 ^ s : Nat) : Int) := by simp
  have w64 : ∀ n : Nat, n < 18446744073709551616 → IntKind.u64.wrap (n : Int) = n := by
    intro n hn
    simp [IntKind.wrap, IntKind.bits, IntKind.signed]; omega
  have o : ∀ n : Nat, BitVec.ofInt 64 (n : Int) = BitVec.ofNat 64 n := fun n => BitVec.ofInt_natCast 64 n
  have hs : (x ||| y * 2 ^ s) = x + y * 2 ^ s := by
    have := Nat.two_pow_add_eq_or_of_lt hx y
    rw [Nat.mul_comm y, Nat.or_comm, ← this, Nat.add_comm]
  have hlt : (x ||| y * 2 ^ s) < 2 ^ 64 := Nat.or_lt_two_pow (by simpa using hx6) (by simpa using hy)
  rw [e, w64 _ hy]
  show IntKind.u64.wrap (((BitVec.ofInt 64 (x : Int)) ||| (BitVec.ofInt 64 ((y * 2 ^ s : Nat) : Int))).toNat : Int) = _
  rw [o, o, BitVec.toNat_or, BitVec.toNat_ofNat, BitVec.toNat_ofNat, Nat.mod_eq_of_lt (by simpa using hx6), Nat.mod_eq_of_lt (by simpa using hy), w64 _ (by simpa using hlt), hs]
theorem refFrom_any (N : Nat) (w : World) :
    Calls Tryz.prog 115 #[.agg ((bytesL N).map (Value.int .u8)).toArray] w fun e w' => e = .returned (wordV N) ∧ Below w.heap.size w w' := by
  have hbl : (bytesL N).length = 32 := by simp [bytesL]
  go_enter Tryz.func115, Tryz.ntmps115
  go_wp2
  go_loopw [4] (fun i wr => ∃ k : Nat, k ≤ 32 ∧ i = .int .i64 k ∧ Blk .u8 wr w.heap.size 164 (bytesL N) ∧ Blk .u64 wr (w.heap.size + 1) 32 [0, 0, 0, 0] ∧ Blk .u64 wr (w.heap.size + 1 + 1) 32 (wordL (N % 256 ^ k)) ∧ Below w.heap.size w wr) (fun i _ => 32 - (intOf i).toNat)
  case atStart =>
    exact ⟨0, by omega, rfl, ((Blk.new w _ (bytesL N)).alloc _).alloc _, (Blk.new' _ _ _ [0, 0, 0, 0] (by simp)).alloc _, by rw [show wordL (N % 256 ^ 0) = [0, 0, 0, 0] by simp [wordL, limb]]; exact Blk.new' _ _ _ [0, 0, 0, 0] (by simp), xalloc (xalloc (xalloc (xrefl _) _) _) _⟩
  case round =>
    obtain ⟨k, hk, rfl, hA, hR, hB, hb⟩ := hrel
    by_cases hlt : k < 32
    · have hc1 := hB.cell (k / 8) (by show k / 8 < 4; omega)
      rw [wordL_get] at hc1
      have hf1 := hB.frozen (k / 8)
      have hc2 := hA.cell (31 - k) (by rw [hbl]; omega)
      rw [bytesL_get _ _ (by rw [hbl]; omega), show 31 - (31 - k) = k by omega] at hc2
      have hx := limb_lt (N % 256 ^ k) (k / 8)
      have hx2 := qh (limb_small N k hlt)
      have hy := byteAt_lt N k
      have hy2 := qh (byte_small N k)
      have hst := qh (wordTo_succ N k hlt)
      generalize limb (N % 256 ^ k) (k / 8) = x at hc1 hx hx2 hst
      generalize byteAt N k = y at hc2 hy hy2 hst
      go_wp2
      go_region
      rw [or_byte x y _ hx2.out hx hy2.out]
      go_wp2
      go_roundw
      case rel =>
        refine ⟨k + 1, by omega, by go_num, hA.oth _ (by omega), hR.oth _ (by omega), ?_, xdrew (xsetb hb (by omega) _)⟩
        have := hB.set (k / 8) ((x + y * 2 ^ (8 * (k % 8)) : Nat) : Int)
        rw [hst.out] at this
        exact this
      case measure => simp [intOf]; omega
    · have hk32 : k = 32 := by omega
      subst hk32
      rw [wordL_mod] at hB
      clear hlt
      go_wp2_with (first
        | (refine wpList_load_blk rfl 32 _ rfl (w.heap.size + 1 + 1) rfl .u64 32 (wordL N) _ _ hB Tryz.underlying32 (by kernel_rfl) ?_)
        | (refine wpList_store_blk rfl 32 _ _ rfl (w.heap.size + 1) rfl .u64 32 [0, 0, 0, 0] (wordL N) hR rfl rfl (by kernel_rfl) ?_; intro w2 h2 ho2))
      refine ret_blk rfl (w.heap.size + 1) .u64 32 (wordL N) _ _ rfl h2 Tryz.underlying32 (by kernel_rfl) rfl ⟨rfl, ?_⟩
      exact ho2.below hb hb.size (by rintro i rfl; omega)
end
section
open Go.RowKit
def iv32 (x : BitVec 32) : Int := x.toNat
def iv64 (x : BitVec 64) : Int := x.toNat
theorem iv32_inj {x y : BitVec 32} : iv32 x = iv32 y ↔ x = y := by unfold iv32; rw [BitVec.toNat_eq]; omega
theorem iv64_inj {x y : BitVec 64} : iv64 x = iv64 y ↔ x = y := by unfold iv64; rw [BitVec.toNat_eq]; omega
theorem ofInt32 (x : BitVec 32) : BitVec.ofInt 32 (x.toNat : Int) = x := by rw [BitVec.ofInt_natCast]; simp
theorem ofInt64 (x : BitVec 64) : BitVec.ofInt 64 (x.toNat : Int) = x := by rw [BitVec.ofInt_natCast]; simp
theorem wrap32_nat (n : Nat) : IntKind.u32.wrap (n : Int) = iv32 (BitVec.ofNat 32 n) := by
  simp [IntKind.wrap, IntKind.bits, IntKind.signed, iv32]
theorem wrap64_nat (n : Nat) : IntKind.u64.wrap (n : Int) = iv64 (BitVec.ofNat 64 n) := by
  simp [IntKind.wrap, IntKind.bits, IntKind.signed, iv64]
def add32 (a b : BitVec 32) : BitVec 32 := a + b
def sub32 (a b : BitVec 32) : BitVec 32 := a - b
def and32 (a b : BitVec 32) : BitVec 32 := a &&& b
def or32 (a b : BitVec 32) : BitVec 32 := a ||| b
def xor32 (a b : BitVec 32) : BitVec 32 := a ^^^ b
def not32 (a : BitVec 32) : BitVec 32 := ~~~a
def shl32 (a : BitVec 32) (n : Nat) : BitVec 32 := a <<< n
def shr32 (a : BitVec 32) (n : Nat) : BitVec 32 := a >>> n
section
variable (t : TypeId) (a b : BitVec 32)
@[go_sem high] theorem op_add32 : binOp .add t (.int .u32 (iv32 a)) (.int .u32 (iv32 b)) = pure (.int .u32 (iv32 (add32 a b))) := by
  simp only [binOp_add, Op.intArith, iv32]
  rw [show ((a.toNat : Int) + (b.toNat : Int)) = ((a.toNat + b.toNat : Nat) : Int) by omega, wrap32_nat]
  simp [iv32, add32]
@[go_sem high] theorem op_sub32 : binOp .sub t (.int .u32 (iv32 a)) (.int .u32 (iv32 b)) = pure (.int .u32 (iv32 (sub32 a b))) := by
  simp only [binOp_sub, Op.intArith, iv32]
  have ha := a.isLt
  have hb := b.isLt
  congr 2
  simp only [IntKind.wrap, IntKind.bits, IntKind.signed, sub32, BitVec.toNat_sub]
  simp
  omega
@[go_sem high] theorem op_and32 : binOp .and t (.int .u32 (iv32 a)) (.int .u32 (iv32 b)) = pure (.int .u32 (iv32 (and32 a b))) := by
  simp only [binOp_and, intBits_and, bits, iv32, IntKind.bits, ofInt32, wrap32_nat]
  rw [BitVec.ofNat_toNat, BitVec.setWidth_eq]; rfl
@[go_sem high] theorem op_or32 : binOp .or t (.int .u32 (iv32 a)) (.int .u32 (iv32 b)) = pure (.int .u32 (iv32 (or32 a b))) := by
  simp only [binOp_or, intBits_or, bits, iv32, IntKind.bits, ofInt32, wrap32_nat]
  rw [BitVec.ofNat_toNat, BitVec.setWidth_eq]; rfl
@[go_sem high] theorem op_xor32 : binOp .xor t (.int .u32 (iv32 a)) (.int .u32 (iv32 b)) = pure (.int .u32 (iv32 (xor32 a b))) := by
  simp only [binOp_xor, intBits_xor, bits, iv32, IntKind.bits, ofInt32, wrap32_nat]
  rw [BitVec.ofNat_toNat, BitVec.setWidth_eq]; rfl
@[go_sem high] theorem op_not32 : Op.unary .xor (.int .u32 (iv32 a)) = pure (.int .u32 (iv32 (not32 a))) := by
  rw [unary_xor]
  simp only [IntKind.signed, Bool.false_eq_true, if_false, intBits_xor, bits, iv32, IntKind.bits, ofInt32, wrap32_nat]
  rw [BitVec.ofNat_toNat, BitVec.setWidth_eq, show (BitVec.ofInt 32 IntKind.u32.max) = BitVec.allOnes 32 by rfl]
  exact congrArg (fun v : BitVec 32 => (pure (Value.int .u32 (v.toNat : Int)) : Sem Value)) BitVec.allOnes_xor
@[go_sem high] theorem op_shl32 (yk : IntKind) (y : Int) (h0 : 0 ≤ y) (h : y < 32) : binOp .shl t (.int .u32 (iv32 a)) (.int yk y) = pure (.int .u32 (iv32 (shl32 a y.toNat))) := by
  obtain ⟨n, rfl⟩ := Int.eq_ofNat_of_zero_le h0
  rw [binOp_shl, shift_shl_u32 _ _ _ (by omega) (by omega), Int.toNat_natCast]
  simp only [iv32, shl32]
  rw [show ((a.toNat : Int) * 2 ^ n) = ((a.toNat * 2 ^ n : Nat) : Int) by simp, wrap32_nat]
  simp [iv32, Nat.shiftLeft_eq]
@[go_sem high] theorem op_shr32 (yk : IntKind) (y : Int) (h0 : 0 ≤ y) (h : y < 32) : binOp .shr t (.int .u32 (iv32 a)) (.int yk y) = pure (.int .u32 (iv32 (shr32 a y.toNat))) := by
  obtain ⟨n, rfl⟩ := Int.eq_ofNat_of_zero_le h0
  rw [binOp_shr, shift_shr_u32 _ _ _ (by omega) (by omega), Int.toNat_natCast]
  simp only [iv32, shr32, BitVec.toNat_ushiftRight, Nat.shiftRight_eq_div_pow]
  simp
@[go_sem high] theorem op_eql32 : binOp .eql t (.int .u32 (iv32 a)) (.int .u32 (iv32 b)) = pure (.bool (a == b)) := by
  rw [binOp_eql]
  have : (iv32 a == iv32 b) = (a == b) := by rw [Bool.eq_iff_iff, beq_iff_eq, beq_iff_eq, iv32_inj]
  rw [this]
end
end
section
open Go.RowKit
def or64 (a b : BitVec 64) : BitVec 64 := a ||| b
def and64 (a b : BitVec 64) : BitVec 64 := a &&& b
def andn64 (a b : BitVec 64) : BitVec 64 := a &&& ~~~b
def shr64 (a : BitVec 64) (n : Nat) : BitVec 64 := a >>> n
def dec64 (a : BitVec 64) : BitVec 64 := a - 1
def bit64 (n : Nat) : BitVec 64 := 1#64 <<< n
section
variable (t : TypeId) (a b : BitVec 64)
@[go_sem high] theorem op_and64 : binOp .and t (.int .u64 (iv64 a)) (.int .u64 (iv64 b)) = pure (.int .u64 (iv64 (and64 a b))) := by
  simp only [binOp_and, intBits_and, bits, iv64, IntKind.bits, ofInt64, wrap64_nat]
  rw [BitVec.ofNat_toNat, BitVec.setWidth_eq]; rfl
@[go_sem high] theorem op_or64 : binOp .or t (.int .u64 (iv64 a)) (.int .u64 (iv64 b)) = pure (.int .u64 (iv64 (or64 a b))) := by
  simp only [binOp_or, intBits_or, bits, iv64, IntKind.bits, ofInt64, wrap64_nat]
  rw [BitVec.ofNat_toNat, BitVec.setWidth_eq]; rfl
@[go_sem high] theorem op_andn64 : binOp .andNot t (.int .u64 (iv64 a)) (.int .u64 (iv64 b)) = pure (.int .u64 (iv64 (andn64 a b))) := by
  simp only [binOp_andNot, intBits_andNot, bits, iv64, IntKind.bits, ofInt64, wrap64_nat]
  rw [BitVec.ofNat_toNat, BitVec.setWidth_eq]; rfl
@[go_sem high] theorem op_dec64 : binOp .sub t (.int .u64 (iv64 a)) (.int .u64 1) = pure (.int .u64 (iv64 (dec64 a))) := by
  simp only [binOp_sub, Op.intArith, iv64]
  have ha := a.isLt
  congr 2
  simp only [IntKind.wrap, IntKind.bits, IntKind.signed, dec64, BitVec.toNat_sub]
  simp
  omega
@[go_sem high] theorem op_bit64 (yk : IntKind) (y : Int) (h0 : 0 ≤ y) (h : y < 64) : binOp .shl t (.int .u64 1) (.int yk y) = pure (.int .u64 (iv64 (bit64 y.toNat))) := by
  obtain ⟨n, rfl⟩ := Int.eq_ofNat_of_zero_le h0
  rw [binOp_shl, shift_shl_u64 _ _ _ (by omega) (by omega), Int.toNat_natCast]
  rw [show ((1 : Int) * 2 ^ n) = ((2 ^ n : Nat) : Int) by simp, wrap64_nat]
  simp only [iv64, bit64, BitVec.toNat_shiftLeft, BitVec.toNat_ofNat, Nat.shiftLeft_eq]
  simp
@[go_sem high] theorem op_shr64 (yk : IntKind) (y : Int) (h0 : 0 ≤ y) (h : y < 64) : binOp .shr t (.int .u64 (iv64 a)) (.int yk y) = pure (.int .u64 (iv64 (shr64 a y.toNat))) := by
  obtain ⟨n, rfl⟩ := Int.eq_ofNat_of_zero_le h0
  rw [binOp_shr, shift_shr_u64 _ _ _ (by omega) (by omega), Int.toNat_natCast]
  simp only [iv64, shr64, BitVec.toNat_ushiftRight, Nat.shiftRight_eq_div_pow]
  simp
@[go_sem high] theorem op_eql64 : binOp .eql t (.int .u64 (iv64 a)) (.int .u64 (iv64 b)) = pure (.bool (a == b)) := by
  rw [binOp_eql]
  have : (iv64 a == iv64 b) = (a == b) := by rw [Bool.eq_iff_iff, beq_iff_eq, beq_iff_eq, iv64_inj]
  rw [this]
@[go_sem high] theorem op_eqz64 : binOp .eql t (.int .u64 (iv64 a)) (.int .u64 0) = pure (.bool (a == 0)) := op_eql64 t a 0
@[go_sem high] theorem op_nez64 : binOp .neq t (.int .u64 (iv64 a)) (.int .u64 0) = pure (.bool (!(a == 0))) := by
  rw [binOp_neq]
  have : (iv64 a == 0) = (a == 0) := by
    have h := @iv64_inj a 0
    rw [Bool.eq_iff_iff, beq_iff_eq, beq_iff_eq, ← h]; rfl
  show pure (Value.bool (!(iv64 a == 0))) = _
  rw [this]
end
theorem dec_lo (k : Nat) (h : k < 10) : Lib.decDigits k = [UInt8.ofNat (48 + k)] := by rw [Lib.decDigits, dif_pos h]
theorem dec_hi (k : Nat) (h : 10 ≤ k) (h2 : k < 100) : Lib.decDigits k = [UInt8.ofNat (48 + k / 10), UInt8.ofNat (48 + k % 10)] := by
  rw [Lib.decDigits, dif_neg (by omega), dec_lo (k / 10) (by omega)]; rfl
theorem u8_nat (k : Nat) (h : k < 100) : (UInt8.ofNat (48 + k)).toNat = 48 + k := by
  rw [UInt8.toNat_ofNat']; omega
end
end Go.Proofs.YtijkdabmegbcjaaGreatDoor
