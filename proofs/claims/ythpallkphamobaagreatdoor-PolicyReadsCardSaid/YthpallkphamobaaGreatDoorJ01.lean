/- Texts of this claim, merged; no condition. -/
import Derived.Lib.ItoaNum
import Derived.Test.YthpallkphamobaaGreatDoorJ00
import Derived.Lib.AppendZerosOnto
import Derived.Lib.AppendZeros
import Derived.RangeFuncRecord
import Derived.Deep.MidRow
import Derived.Laws.MakeOwn
set_option linter.all false
namespace Go.Proofs.YthpallkphamobaaGreatDoor

/-! Addresses: twenty bytes. -/
def ordA : List Nat → List Nat → Int
  | a :: r, b :: s => if a < b then -1 else if b < a then 1 else ordA r s
  | _, _ => 0
theorem ordA_self : ∀ a : List Nat, ordA a a = 0
  | [] => rfl
  | a :: r => by rw [ordA, if_neg (by omega), if_neg (by omega), ordA_self r]
theorem ordA_is (a b : List Nat) : ordA a b = -1 ∨ ordA a b = 0 ∨ ordA a b = 1 := by
  induction a generalizing b with
  | nil => exact .inr (.inl rfl)
  | cons a r ih =>
    cases b with
    | nil => exact .inr (.inl rfl)
    | cons b s =>
      rw [ordA]
      by_cases h1 : a < b
      · rw [if_pos h1]; exact .inl rfl
      · rw [if_neg h1]
        by_cases h2 : b < a
        · rw [if_pos h2]; exact .inr (.inr rfl)
        · rw [if_neg h2]; exact ih s
/-- The address of a text. -/
def addrF (s : List UInt8) : Option (List Nat) := (unhexN s).bind fun l => if l.length = 20 then some l else none
theorem addr_hex {a : List Nat} (h : ∀ b ∈ a, b < 256) (hl : a.length = 20) : addrF (hexN a) = some a := by
  unfold addrF
  rw [unhexN_hex a h, Option.bind_some, if_pos hl]
theorem addr_some {s : List UInt8} {a : List Nat} (h : addrF s = some a) : hexN a = s ∧ (∀ b ∈ a, b < 256) ∧ a.length = 20 := by
  unfold addrF at h
  obtain ⟨l, h1, h2⟩ := Option.bind_eq_some_iff.1 h
  by_cases hl : l.length = 20
  · rw [if_pos hl] at h2; cases h2
    obtain ⟨e1, e2⟩ := unhexN_some h1
    exact ⟨e1, e2, hl⟩
  · rw [if_neg hl] at h2; cases h2

/-! Numbers below 2^32, in their one text. -/
def decV (s : List UInt8) : Nat := s.foldl (fun n c => 10 * n + (c.toNat - 48)) 0
theorem decV_snoc (s : List UInt8) (c : UInt8) : decV (s ++ [c]) = 10 * decV s + (c.toNat - 48) := by unfold decV; rw [List.foldl_append]; rfl
theorem dec_digit (k : Nat) (h : k < 10) : (UInt8.ofNat (48 + k)).toNat - 48 = k := by
  have : (48 + k) % 256 = 48 + k := Nat.mod_eq_of_lt (by omega)
  simp [UInt8.toNat_ofNat', this]
theorem decV_dec (n : Nat) : decV (Lib.decDigits n) = n := by
  induction n using Nat.strongRecOn with
  | _ n ih =>
    rw [Lib.decDigits]
    by_cases h : n < 10
    · rw [dif_pos h]
      show 10 * 0 + ((UInt8.ofNat (48 + n)).toNat - 48) = n
      rw [dec_digit n h]; omega
    · rw [dif_neg h, decV_snoc, ih (n / 10) (by omega), dec_digit _ (by omega)]
      omega
def numF (s : List UInt8) : Option Nat := if decV s < 4294967296 ∧ Lib.decDigits (decV s) = s then some (decV s) else none
theorem num_dec {n : Nat} (h : n < 4294967296) : numF (Lib.decDigits n) = some n := by
  unfold numF
  rw [decV_dec, if_pos ⟨h, rfl⟩]
theorem num_some {s : List UInt8} {n : Nat} (h : numF s = some n) : Lib.decDigits n = s ∧ n < 4294967296 := by
  unfold numF at h
  by_cases hc : decV s < 4294967296 ∧ Lib.decDigits (decV s) = s
  · rw [if_pos hc] at h; cases h; exact ⟨hc.2, hc.1⟩
  · rw [if_neg hc] at h; cases h

/-! Policies. -/
structure PolN where
  dflt : BitVec 64
  clears : List (List Nat × BitVec 64)
  rels : List (List Nat × Nat × BitVec 64)
structure PolN.Ok (p : PolN) : Prop where
  c : ∀ x ∈ p.clears, x.1.length = 20 ∧ ∀ b ∈ x.1, b < 256
  r : ∀ x ∈ p.rels, (x.1.length = 20 ∧ ∀ b ∈ x.1, b < 256) ∧ x.2.1 < 4294967296
def clearF (p : PolN) (a : List Nat) : BitVec 64 := ((p.clears.find? fun x => decide (x.1 = a)).map (·.2)).getD p.dflt
def targetF (p : PolN) (a : List Nat) (e : Nat) : Option (BitVec 64) := (p.rels.find? fun x => decide (x.1 = a ∧ x.2.1 = e)).map (·.2.2)
/-- Each is more than the one ahead. -/
def riseF {α : Type} (ord : α → α → Int) : List α → Bool
  | x :: y :: r => decide (ord x y < 0) && riseF ord (y :: r)
  | _ => true
def cmpI (a b : Nat) : Int := if a < b then -1 else if b < a then 1 else 0
def ordC (x y : List Nat × BitVec 64) : Int := ordA x.1 y.1
def ordR (x y : List Nat × Nat × BitVec 64) : Int := if ordA x.1 y.1 = 0 then cmpI x.2.1 y.2.1 else ordA x.1 y.1
def okR (p : PolN) (x : List Nat × Nat × BitVec 64) : Bool := belowB x.2.2 (clearF p x.1)
def checkF (p : PolN) : Nat :=
  if 64 < p.clears.length ∨ 64 < p.rels.length then 3
  else if riseF ordC p.clears = true ∧ riseF ordR p.rels = true ∧ p.rels.all (okR p) = true then 0 else 2
/-! Lines and text. -/
def wClear : List UInt8 := [99, 108, 101, 97, 114]
def wRelease : List UInt8 := [114, 101, 108, 101, 97, 115, 101]
def wDefault : List UInt8 := [100, 101, 102, 97, 117, 108, 116]
def lineD (x : BitVec 64) : List (List UInt8) := [wDefault, textL x]
def lineC (x : List Nat × BitVec 64) : List (List UInt8) := [wClear, hexN x.1, textL x.2]
def lineR (x : List Nat × Nat × BitVec 64) : List (List UInt8) := [wRelease, hexN x.1, Lib.decDigits x.2.1, textL x.2.2]
def wordsF (p : PolN) : List (List (List UInt8)) := lineD p.dflt :: (p.clears.map lineC ++ p.rels.map lineR)
def linesF (p : PolN) : List (List UInt8) := (wordsF p).map fun l => Lib.join l [32]
def textF (p : PolN) : List UInt8 := (linesF p).flatMap (· ++ [10])
/-! The policy of a text. -/
def lineF (p : PolN) (first : Bool) (l : List (List UInt8)) : Option PolN :=
  match first, l with
  | true, [w, x] => if w = wDefault then (parseP x).map fun d => { p with dflt := d } else none
  | false, [w, a, x] => if w = wClear ∧ p.rels = [] then (addrF a).bind fun a => (parseP x).map fun d => { p with clears := p.clears ++ [(a, d)] } else none
  | false, [w, a, n, x] => if w = wRelease then (addrF a).bind fun a => (numF n).bind fun n => (parseP x).map fun d => { p with rels := p.rels ++ [(a, n, d)] } else none
  | _, _ => none
def linesP : PolN → Bool → List (List UInt8) → Option PolN
  | p, _, [] => some p
  | p, first, s :: r => (lineF p first (splS 32 s)).bind fun q => linesP q false r
def noneP : PolN := ⟨0, [], []⟩
/-- What is read, or the error's number. -/
def parseF (s : List UInt8) : Except Nat PolN :=
  if 65536 < s.length then .error 3
  else if s.getLast? ≠ some 10 then .error 190
  else match linesP noneP true (splS 10 s.dropLast) with
    | none => .error 190
    | some p => if checkF p = 0 then .ok p else .error (checkF p)
end Go.Proofs.YthpallkphamobaaGreatDoor
namespace Go.Proofs.YthpallkphamobaaGreatDoor
open Go.RowKit

/-- The slice at 'a' holds the integers 'zs'. -/
def RowAt (q : IntKind) (w : World) (a : Option Addr) (zs : List Int) : Prop :=
  ∀ i (h : i < zs.length), ∃ b o, a = some ⟨b, o, none⟩ ∧ w.cell? ⟨b, o + i, none⟩ = some (.int q zs[i])

theorem RowAt.below {q : IntKind} {w w' : World} {a : Option Addr} {zs : List Int} (h : RowAt q w a zs) (hb : Below w.heap.size w w') : RowAt q w' a zs := fun i hi => by
  obtain ⟨b, o, h1, h2⟩ := h i hi
  exact ⟨b, o, h1, cbel hb h2⟩
theorem RowAt.nil {q : IntKind} {w : World} {a : Option Addr} : RowAt q w a [] := fun i hi => absurd hi (by simp)

/-- What an append onto a slice of the call's own gives, nil or not. -/
theorem run_append_row {P : Program} (w : World) (base : Nat) (t ty e : TypeId) (i : TypeInfo) (z : Value) (bytes : Nat) (ht : P.underlying t = some (.slice e)) (hi : P.info? e = some i) (hz : i.zero = some z)
    (hsize : i.size = 1) (hby : i.bytes = bytes) (hzs : z.cells.size = 1) (v : Value) (n : Nat) (xs : List Value) (hown : w.ownsRow base e 1 v n xs)
    (a : Option Addr) (c : Nat) (hn : a = none → c = 0) (q : IntKind) (zs : List Int) (hr : RowAt q w a zs) (h63 : n + zs.length ≤ maxLen) (hbytes : (n + zs.length) * bytes ≤ 140737488355328) (hbase : base ≤ w.heap.size) :
    ∃ v' w', (Builtin.append_ #[t, t] ty #[v, .slice a zs.length c]).run P w = .ok v' w' ∧ w'.ownsRow base e 1 v' (n + zs.length) (xs ++ zs.map (Value.int q)) ∧ w.grownBy w' v.ownBlock := by
  cases a with
  | none =>
    have h0 : zs = [] := by
      cases zs with
      | nil => rfl
      | cons x l => obtain ⟨b, o, h1, _⟩ := hr 0 (by simp); cases h1
    subst h0
    obtain rfl := hn rfl
    exact ⟨v, w, run_append_owned_none w base t ty e i 1 ht hi v n xs hown, by simpa using hown, World.grownBy.refl _ _⟩
  | some x =>
    obtain ⟨v', w', h1, h2, h3, _⟩ := run_append_own (P := P) (w := w) base t ty e i z 1 bytes ht hi hz hsize hby hzs (by decide) v n xs hown x zs.length c (zs.map (Value.int q)) (by simp) (by
      intro j u hj
      rw [List.getElem?_map] at hj
      obtain ⟨y, hy, rfl⟩ := Option.map_eq_some_iff.1 hj
      obtain ⟨hlt, rfl⟩ := List.getElem?_eq_some_iff.1 hy
      obtain ⟨b, o, h1, h2⟩ := hr j hlt
      cases h1
      rw [Addr.add_lit]
      exact h2) (ints_oneCell _ _) h63 hbytes hbase
    exact ⟨v', w', h1, h2, h3⟩

theorem wpList_append_row {P : Program} (w : World) {ops : Array Oper} {rest : List Oper} {o : Oper} {ac : Act} {Q : Exit → Act → World → Prop} (hgd : o.guard = none) (s x : Operand) (t : TypeId)
    (ho : o.op = .call { callee := .builtin .append, args := #[s, x], argTypes := #[t, t] })
    (base e : TypeId) (i : TypeInfo) (z : Value) (bytes : Nat) (ht : P.underlying t = some (.slice e)) (hi : P.info? e = some i) (hz : i.zero = some z)
    (hsize : i.size = 1) (hby : i.bytes = bytes) (hzs : z.cells.size = 1) (v : Value) (n : Nat) (xs : List Value) (hs : ac.eval s = v) (hown : w.ownsRow base e 1 v n xs)
    (a : Option Addr) (c : Nat) (q : IntKind) (zs : List Int) (hx : ac.eval x = .slice a zs.length c) (hn : a = none → c = 0) (hr : RowAt q w a zs) (h63 : n + zs.length ≤ maxLen) (hbytes : (n + zs.length) * bytes ≤ 140737488355328) (hbase : base ≤ w.heap.size)
    (h : ∀ v' w', w'.ownsRow base e 1 v' (n + zs.length) (xs ++ zs.map (Value.int q)) → w.grownBy w' v.ownBlock → wpList P ops Q rest (ac.put o.dst v') w') : wpList P ops Q (o :: rest) ac w := by
  obtain ⟨v', w', h1, h2, h3⟩ := run_append_row (P := P) w base t o.type e i z bytes ht hi hz hsize hby hzs v n xs hown a c hn q zs hr h63 hbytes hbase
  exact Lib.wpList_append_run w hgd s x t t ho _ _ hs hx v' w' h1 (h v' w' h2 h3)

/-- An owned row of integers can be read. -/
theorem rowAt_own {w : World} {base : Nat} {e : TypeId} {q : IntKind} {v : Value} {n : Nat} {zs : List Int} (h : w.ownsRow base e 1 v n (zs.map (Value.int q))) :
    ∃ a c, v = .slice a zs.length c ∧ RowAt q w a zs ∧ (a = none → c = 0) ∧ (∀ x, a = some x → base ≤ x.block) ∧ n = zs.length := by
  have hlen := h.1
  simp at hlen
  rcases h.2 with ⟨rfl, rfl⟩ | ⟨g, cap, cur, rfl, hg, _⟩
  · have : zs = [] := List.length_eq_zero_iff.1 hlen
    subst this
    exact ⟨none, 0, rfl, RowAt.nil, fun _ => rfl, by simp, rfl⟩
  · refine ⟨_, cap, by rw [hlen], fun i hi => ⟨g, 0, rfl, ?_⟩, by simp, by rintro x ⟨⟩; exact hg, hlen.symm⟩
    have := h.cellAt i (by omega)
    simpa [List.getElem?_eq_getElem hi] using this

end Go.Proofs.YthpallkphamobaaGreatDoor
namespace Go.Proofs.YthpallkphamobaaGreatDoor
open Go.RowKit

def limb (N j : Nat) : Nat := N / 2 ^ (64 * j) % 18446744073709551616
def byteAt (N i : Nat) : Nat := N / 256 ^ i % 256
theorem limb_lt (N j : Nat) : limb N j < 18446744073709551616 := Nat.mod_lt _ (by decide)
/-- A word as Go holds it. -/
def wordL (N : Nat) : List Int := [limb N 0, limb N 1, limb N 2, limb N 3]
def wordV (N : Nat) : Value := .agg #[.int .u64 (limb N 0), .int .u64 (limb N 1), .int .u64 (limb N 2), .int .u64 (limb N 3)]
theorem sh_byte (x r : Nat) (h : r < 8) : x % 18446744073709551616 / 2 ^ (8 * r) % 256 = x / 2 ^ (8 * r) % 256 := by
  have : r = 0 ∨ r = 1 ∨ r = 2 ∨ r = 3 ∨ r = 4 ∨ r = 5 ∨ r = 6 ∨ r = 7 := by omega
  rcases this with rfl | rfl | rfl | rfl | rfl | rfl | rfl | rfl <;> simp <;> omega
theorem limb_byte (N i : Nat) : limb N (i / 8) / 2 ^ (8 * (i % 8)) % 256 = byteAt N i := by
  unfold limb byteAt
  rw [sh_byte _ _ (Nat.mod_lt _ (by decide)), Nat.div_div_eq_div_mul, ← Nat.pow_add, show (256 : Nat) = 2 ^ 8 by decide, ← Nat.pow_mul]
  congr 3
  omega

/-! A block that holds integers. -/
def Blk (q : IntKind) (w : World) (b : Nat) (T : TypeId) (l : List Int) : Prop := w.heap[b]? = some (.cells (l.map (Value.int q)).toArray T (0, 0))
theorem Blk.cell {q : IntKind} {w : World} {b : Nat} {T : TypeId} {l : List Int} (h : Blk q w b T l) (i : Nat) (hi : i < l.length) : w.cell? ⟨b, i, none⟩ = some (.int q l[i]) := by
  rw [cell_of_row w b i _ T (0, 0) h]; simp [hi]
theorem xsetb {a w : World} (h : Below a.heap.size a w) {c i : Nat} (hp : a.heap.size ≤ c) (u : Value) : Below a.heap.size a (w.setCell ⟨c, i, none⟩ u) := h.setCell hp u
theorem Blk.new {q : IntKind} (w : World) (T : TypeId) (l : List Int) : Blk q (w.alloc (.cells (l.map (Value.int q)).toArray T)) w.heap.size T l := by
  show (w.heap.push _)[_]? = _
  simp

theorem wordL_get (N j : Nat) (h : j < (wordL N).length) : (wordL N)[j] = limb N j := by
  have : j < 4 := h
  match j, this with
  | 0, _ => rfl
  | 1, _ => rfl
  | 2, _ => rfl
  | 3, _ => rfl
end Go.Proofs.YthpallkphamobaaGreatDoor
namespace Go.Proofs.YthpallkphamobaaGreatDoor
open Go.RowKit

/-- W' is W, but for blocks of O and new ones. -/
structure Only (O : Nat → Prop) (W W' : World) : Prop where
  os : W'.os = W.os
  tape : W'.tape = W.tape
  output : W'.output = W.output
  size : W.heap.size ≤ W'.heap.size
  same : ∀ k, k < W.heap.size → ¬ O k → W'.heap[k]? = W.heap[k]?
/-- The blocks of O are in W' as in W. -/
structure Keep (O : Nat → Prop) (W W' : World) : Prop where
  size : W.heap.size ≤ W'.heap.size
  same : ∀ k, k < W.heap.size → O k → W'.heap[k]? = W.heap[k]?

theorem Only.refl (O : Nat → Prop) (W : World) : Only O W W := ⟨rfl, rfl, rfl, Nat.le_refl _, fun _ _ _ => rfl⟩
theorem Only.trans {O : Nat → Prop} {A B C : World} (h : Only O A B) (k : Only O B C) : Only O A C :=
  ⟨k.os.trans h.os, k.tape.trans h.tape, k.output.trans h.output, Nat.le_trans h.size k.size, fun i hi hn => (k.same i (Nat.lt_of_lt_of_le hi h.size) hn).trans (h.same i hi hn)⟩
theorem Only.mono {O O' : Nat → Prop} {W W' : World} (h : Only O W W') (hO : ∀ k, k < W.heap.size → O k → O' k) : Only O' W W' := ⟨h.os, h.tape, h.output, h.size, fun k hk hn => h.same k hk (fun ho => hn (hO k hk ho))⟩
theorem Only.alloc {O : Nat → Prop} {A W : World} (h : Only O A W) (o : Obj) : Only O A (W.alloc o) :=
  h.trans ⟨rfl, rfl, rfl, by simp, fun k hk _ => Below.heap_alloc W o k hk⟩
theorem Only.drew {O : Nat → Prop} {A W : World} (h : Only O A W) : Only O A W.drew := h.trans ⟨rfl, rfl, rfl, Nat.le_refl _, fun _ _ _ => rfl⟩
theorem Only.putObj {O : Nat → Prop} {A W : World} (h : Only O A W) (l : Nat) (o : Obj) (hl : O l) : Only O A (W.putObj l o) :=
  h.trans ⟨rfl, rfl, rfl, by simp, fun k _ hn => World.putObj_heap_other (fun e => hn (e ▸ hl))⟩
theorem Only.setCell {O : Nat → Prop} {A W : World} (h : Only O A W) (p : Addr) (v : Value) (hl : O p.block) : Only O A (W.setCell p v) :=
  h.trans ⟨rfl, rfl, rfl, by simp [World.setCell], fun k _ hn => Below.heap_setCell W p v k (fun e => hn (e ▸ hl))⟩
theorem Only.below {O : Nat → Prop} {B : Nat} {w W W' : World} (h : Below B w W) (k : Only O W W') (hB : B ≤ W.heap.size) (hO : ∀ i, O i → B ≤ i) : Below B w W' :=
  h.trans ⟨k.os, k.tape, k.output, k.size, fun i hi => k.same i (Nat.lt_of_lt_of_le hi hB) (fun ho => by have := hO i ho; omega)⟩
theorem Below.only {O : Nat → Prop} {W W' : World} (h : Below W.heap.size W W') : Only O W W' := ⟨h.os, h.tape, h.output, h.size, fun k hk _ => h.block k hk⟩
theorem Below.keep {O : Nat → Prop} {W W' : World} (h : Below W.heap.size W W') : Keep O W W' := ⟨h.size, fun k hk _ => h.block k hk⟩
theorem Keep.refl (O : Nat → Prop) (W : World) : Keep O W W := ⟨Nat.le_refl _, fun _ _ _ => rfl⟩
theorem Keep.trans {O : Nat → Prop} {A B C : World} (h : Keep O A B) (k : Keep O B C) : Keep O A C :=
  ⟨Nat.le_trans h.size k.size, fun i hi ho => (k.same i (Nat.lt_of_lt_of_le hi h.size) ho).trans (h.same i hi ho)⟩
theorem Keep.mono {O O' : Nat → Prop} {W W' : World} (h : Keep O W W') (hO : ∀ k, k < W.heap.size → O' k → O k) : Keep O' W W' := ⟨h.size, fun k hk ho => h.same k hk (hO k hk ho)⟩
theorem Keep.cell {O : Nat → Prop} {W W' : World} (h : Keep O W W') {a : Addr} {v : Value} (hc : W.cell? a = some v) (ho : O a.block) : W'.cell? a = some v :=
  (World.cell?_of_block (h.same a.block (cell_lt hc) ho)).trans hc
theorem Only.cell {O : Nat → Prop} {W W' : World} (h : Only O W W') {a : Addr} {v : Value} (hc : W.cell? a = some v) (ho : ¬ O a.block) : W'.cell? a = some v :=
  (World.cell?_of_block (h.same a.block (cell_lt hc) ho)).trans hc
end Go.Proofs.YthpallkphamobaaGreatDoor
namespace Go.Proofs.YthpallkphamobaaGreatDoor
open Go.RowKit

theorem setCells_heap (b : Nat) : ∀ (vs : List Value) (o : Nat) (w : World) (k : Nat), k ≠ b → (w.setCells b o vs).heap[k]? = w.heap[k]?
  | [], _, _, _, _ => rfl
  | v :: vs, o, w, k, h => by
    rw [World.setCells, setCells_heap b vs (o + 1) _ k h]
    exact Below.heap_setCell w ⟨b, o, none⟩ v k h
theorem setCells_rest (b : Nat) : ∀ (vs : List Value) (o : Nat) (w : World), (w.setCells b o vs).os = w.os ∧ (w.setCells b o vs).tape = w.tape ∧ (w.setCells b o vs).output = w.output ∧ (w.setCells b o vs).heap.size = w.heap.size
  | [], _, _ => ⟨rfl, rfl, rfl, rfl⟩
  | v :: vs, o, w => by
    obtain ⟨h1, h2, h3, h4⟩ := setCells_rest b vs (o + 1) (w.setCell ⟨b, o, none⟩ v)
    exact ⟨h1, h2, h3, h4.trans (by simp [World.setCell])⟩
theorem setCells_only (b o : Nat) (vs : List Value) (w : World) : Only (· = b) w (w.setCells b o vs) := by
  obtain ⟨h1, h2, h3, h4⟩ := setCells_rest b vs o w
  exact ⟨h1, h2, h3, Nat.le_of_eq h4.symm, fun k _ hk => setCells_heap b vs o w k hk⟩
theorem setCells_blk (b : Nat) (T : TypeId) : ∀ (vs pre rest : List Value) (w : World), w.heap[b]? = some (.cells (pre ++ rest).toArray T (0, 0)) → vs.length = rest.length → (w.setCells b pre.length vs).heap[b]? = some (.cells (pre ++ vs).toArray T (0, 0))
  | [], pre, rest, w, h, hl => by
    have : rest = [] := List.length_eq_zero_iff.1 (by simpa using hl.symm)
    subst this
    exact h
  | v :: vs, pre, r :: rest, w, h, hl => by
    have h2 : (w.setCell ⟨b, pre.length, none⟩ v).heap[b]? = some (.cells ((pre ++ [v]) ++ rest).toArray T (0, 0)) := by
      rw [heap_setCell_same w b pre.length _ T _ h]
      congr 2
      apply Array.ext'
      simp
    have := setCells_blk b T vs (pre ++ [v]) rest (w.setCell ⟨b, pre.length, none⟩ v) h2 (by simpa using hl)
    rw [World.setCells]
    simpa using this

end Go.Proofs.YthpallkphamobaaGreatDoor
namespace Go.Proofs.YthpallkphamobaaGreatDoor
open Go.RowKit

theorem rowAt_new {q : IntKind} (w : World) (T : TypeId) (zs : List Int) : RowAt q (w.alloc (.cells (zs.map (Value.int q)).toArray T)) (some ⟨w.heap.size, 0, none⟩) zs := fun i hi =>
  ⟨_, _, rfl, by have h := (Blk.new (q := q) w T zs).cell i hi; rw [Nat.zero_add]; exact h⟩
theorem rowAt_one {q : IntKind} (w : World) (T : TypeId) (x : Int) : RowAt q (w.alloc (.cells #[.int q x] T)) (some ⟨w.heap.size, 0, none⟩) [x] := rowAt_new w T [x]
theorem own_keep {w w' : World} {base : Nat} {e : TypeId} {size : Nat} {v : Value} {n : Nat} {xs : List Value} (h : w.ownsRow base e size v n xs) (hb : Below w.heap.size w w') : w'.ownsRow base e size v n xs :=
  h.kept ⟨hb.os, hb.tape, hb.output, hb.size, fun k hk _ => hb.block k hk⟩ (row := none) (by cases v.ownBlock <;> simp)
end Go.Proofs.YthpallkphamobaaGreatDoor
namespace Go.Proofs.YthpallkphamobaaGreatDoor
open Go.RowKit

def RowV (w : World) (a : Option Addr) (vs : List Value) : Prop := ∀ i (h : i < vs.length), ∃ b o, a = some ⟨b, o, none⟩ ∧ w.cell? ⟨b, o + i, none⟩ = some vs[i]
theorem RowV.below {w w' : World} {a : Option Addr} {vs : List Value} (h : RowV w a vs) (hb : Below w.heap.size w w') : RowV w' a vs := fun i hi => by
  obtain ⟨b, o, h1, h2⟩ := h i hi
  exact ⟨b, o, h1, cbel hb h2⟩
theorem RowV.nil {w : World} {a : Option Addr} : RowV w a [] := fun i hi => absurd hi (by simp)
theorem rowV_new (w : World) (T : TypeId) (vs : List Value) : RowV (w.alloc (.cells vs.toArray T)) (some ⟨w.heap.size, 0, none⟩) vs := fun i hi =>
  ⟨_, _, rfl, by rw [Nat.zero_add, cell_of_row _ _ i _ T (0, 0) (World.alloc_heap_new w _)]; simp [hi]⟩
theorem rowV_own {w : World} {base : Nat} {e : TypeId} {size : Nat} {v : Value} {n : Nat} {vs : List Value} (h : w.ownsRow base e size v n vs) :
    ∃ a c, v = .slice a n c ∧ RowV w a vs ∧ (a = none → c = 0) ∧ (∀ x, a = some x → base ≤ x.block) ∧ vs.length = n * size ∧ (n ≠ 0 → a ≠ none) := by
  have hlen := h.1
  rcases h.2 with ⟨rfl, rfl⟩ | ⟨g, cap, cur, rfl, hg, _⟩
  · have : vs = [] := List.length_eq_zero_iff.1 (by simpa using hlen)
    subst this
    exact ⟨none, 0, rfl, RowV.nil, fun _ => rfl, by simp, by simp, by simp⟩
  · refine ⟨_, cap, rfl, fun i hi => ⟨g, 0, rfl, ?_⟩, by simp, by rintro x ⟨⟩; exact hg, hlen, by simp⟩
    have := h.cellAt i (by omega)
    simpa [List.getElem?_eq_getElem hi] using this

theorem run_append_vals {P : Program} (w : World) (base : Nat) (t ty e : TypeId) (i : TypeInfo) (z : Value) (size bytes : Nat) (ht : P.underlying t = some (.slice e)) (hi : P.info? e = some i) (hz : i.zero = some z)
    (hsize : i.size = size) (hby : i.bytes = bytes) (hzs : z.cells.size = size) (hsz : 0 < size) (v : Value) (n : Nat) (xs : List Value) (hown : w.ownsRow base e size v n xs)
    (a : Option Addr) (m c : Nat) (hn : a = none → m = 0 ∧ c = 0) (vs : List Value) (hl : vs.length = m * size) (hr : RowV w a vs) (h1 : ∀ u ∈ vs, u.oneCell' = true) (h63 : n + m ≤ maxLen) (hbytes : (n + m) * bytes ≤ 140737488355328) (hbase : base ≤ w.heap.size) :
    ∃ v' w', (Builtin.append_ #[t, t] ty #[v, .slice a m c]).run P w = .ok v' w' ∧ w'.ownsRow base e size v' (n + m) (xs ++ vs) ∧ w.grownBy w' v.ownBlock := by
  cases a with
  | none =>
    obtain ⟨rfl, rfl⟩ := hn rfl
    have h0 : vs = [] := List.length_eq_zero_iff.1 (by simpa using hl)
    subst h0
    exact ⟨v, w, run_append_owned_none w base t ty e i size ht hi v n xs hown, by simpa using hown, World.grownBy.refl _ _⟩
  | some x =>
    obtain ⟨v', w', h1, h2, h3, _⟩ := run_append_own (P := P) (w := w) base t ty e i z size bytes ht hi hz hsize hby hzs hsz v n xs hown x m c vs hl (by
      intro j u hj
      obtain ⟨hlt, rfl⟩ := List.getElem?_eq_some_iff.1 hj
      obtain ⟨b, o, h1, h2⟩ := hr j hlt
      cases h1
      rw [Addr.add_lit]
      exact h2) h1 h63 hbytes hbase
    exact ⟨v', w', h1, h2, h3⟩
theorem wpList_append_vals {P : Program} (w : World) {ops : Array Oper} {rest : List Oper} {o : Oper} {ac : Act} {Q : Exit → Act → World → Prop} (hgd : o.guard = none) (s x : Operand) (t : TypeId)
    (ho : o.op = .call { callee := .builtin .append, args := #[s, x], argTypes := #[t, t] })
    (base e : TypeId) (i : TypeInfo) (z : Value) (size bytes : Nat) (ht : P.underlying t = some (.slice e)) (hi : P.info? e = some i) (hz : i.zero = some z)
    (hsize : i.size = size) (hby : i.bytes = bytes) (hzs : z.cells.size = size) (hsz : 0 < size) (v : Value) (n : Nat) (xs : List Value) (hs : ac.eval s = v) (hown : w.ownsRow base e size v n xs)
    (a : Option Addr) (m c : Nat) (vs : List Value) (hx : ac.eval x = .slice a m c) (hn : a = none → m = 0 ∧ c = 0) (hl : vs.length = m * size) (hr : RowV w a vs) (h1 : ∀ u ∈ vs, u.oneCell' = true) (h63 : n + m ≤ maxLen) (hbytes : (n + m) * bytes ≤ 140737488355328) (hbase : base ≤ w.heap.size)
    (h : ∀ v' w', w'.ownsRow base e size v' (n + m) (xs ++ vs) → w.grownBy w' v.ownBlock → wpList P ops Q rest (ac.put o.dst v') w') : wpList P ops Q (o :: rest) ac w := by
  obtain ⟨v', w', h1, h2, h3⟩ := run_append_vals (P := P) w base t o.type e i z size bytes ht hi hz hsize hby hzs hsz v n xs hown a m c hn vs hl hr h1 h63 hbytes hbase
  exact Lib.wpList_append_run w hgd s x t t ho _ _ hs hx v' w' h1 (h v' w' h2 h3)
end Go.Proofs.YthpallkphamobaaGreatDoor
namespace Go.Proofs.YthpallkphamobaaGreatDoor
open Go.RowKit

def BlkG (w : World) (b : Nat) (T : TypeId) (vs : List Value) : Prop := w.heap[b]? = some (.cells vs.toArray T (0, 0))
section
variable {w w' : World} {b : Nat} {T : TypeId} {vs : List Value}
theorem BlkG.lt (h : BlkG w b T vs) : b < w.heap.size := (Array.getElem?_eq_some_iff.1 h).1
theorem BlkG.cell (h : BlkG w b T vs) (i : Nat) (hi : i < vs.length) : w.cell? ⟨b, i, none⟩ = some vs[i] := by
  rw [cell_of_row w b i _ T (0, 0) h]; simp [hi]
theorem BlkG.free (h : BlkG w b T vs) (i : Nat) : w.frozen? ⟨b, i, none⟩ = false := frozen_of_row w b i _ T h
theorem BlkG.only {O : Nat → Prop} (h : BlkG w b T vs) (ho : Only O w w') (hb : ¬ O b) : BlkG w' b T vs := (ho.same b h.lt hb).trans h
theorem BlkG.below (h : BlkG w b T vs) (hb : Below w.heap.size w w') : BlkG w' b T vs := (hb.block b h.lt).trans h
theorem BlkG.alloc (h : BlkG w b T vs) (o : Obj) : BlkG (w.alloc o) b T vs := (Below.heap_alloc w o b h.lt).trans h
theorem BlkG.oth (h : BlkG w b T vs) {c i : Nat} (v : Value) (hb : b ≠ c) : BlkG (w.setCell ⟨c, i, none⟩ v) b T vs := (heap_setCell_other w ⟨c, i, none⟩ b v hb).trans h
theorem BlkG.set (h : BlkG w b T vs) (i : Nat) (v : Value) : BlkG (w.setCell ⟨b, i, none⟩ v) b T (vs.set i v) := by
  unfold BlkG at *
  rw [heap_setCell_same w b i _ T _ h]
  congr 2
  apply Array.ext'
  simp
theorem BlkG.new (w : World) (T : TypeId) (vs : List Value) : BlkG (w.alloc (.cells vs.toArray T)) w.heap.size T vs := World.alloc_heap_new w _
theorem BlkG.there (h : BlkG w b T vs) : w.there b 0 vs.length := fun j hj => ⟨by rw [Nat.zero_add, h.cell j hj]; rfl, by rw [Nat.zero_add]; exact h.free j⟩
end
theorem wp_load_blkG {P : Program} {o : Oper} {a : Act} {w : World} {K : Act → World → Prop} {Q : Exit → Act → World → Prop} (ty : TypeId) (x : Operand) (ho : o.op = .load ty x)
    (b : Nat) (hx : a.eval x = .pointer (some ⟨b, 0, none⟩)) (T : TypeId) (vs : List Value) (d : TypeDesc) (hB : BlkG w b T vs) (hu : P.underlying ty = some d) (hd : (match d with | .struct _ | .array _ _ => true | _ => false) = true) (hi : (P.info? ty).map (·.size) = some vs.length)
    (h : K (a.put o.dst (.agg vs.toArray)) w) : o.wp P a w K Q := wp_load_row ty x ho b hx T _ (0, 0) d hB hu hd (by simpa using hi) h
theorem wpList_load_blkG {P : Program} {ops : Array Oper} {rest : List Oper} {o : Oper} {a : Act} {w : World} {Q : Exit → Act → World → Prop} (hgd : o.guard = none) (ty : TypeId) (x : Operand) (ho : o.op = .load ty x)
    (b : Nat) (hx : a.eval x = .pointer (some ⟨b, 0, none⟩)) (T : TypeId) (vs : List Value) (d : TypeDesc) (hB : BlkG w b T vs) (hu : P.underlying ty = some d) (hd : (match d with | .struct _ | .array _ _ => true | _ => false) = true) (hi : (P.info? ty).map (·.size) = some vs.length)
    (h : wpList P ops Q rest (a.put o.dst (.agg vs.toArray)) w) : wpList P ops Q (o :: rest) a w := wpList_load_row hgd ty x ho b hx T _ (0, 0) d hB hu hd (by simpa using hi) h
theorem wp_store_blkG {P : Program} {o : Oper} {a : Act} {w : World} {K : Act → World → Prop} {Q : Exit → Act → World → Prop} (ty : TypeId) (x y : Operand) (ho : o.op = .store ty x y)
    (b : Nat) (hx : a.eval x = .pointer (some ⟨b, 0, none⟩)) (T : TypeId) (vs vs' : List Value) (hB : BlkG w b T vs) (hy : a.eval y = .agg vs'.toArray) (hl : vs'.length = vs.length) (hi : (P.info? ty).map (·.size) = some vs'.length) (h1 : vs'.all (·.oneCell') = true)
    (h : ∀ w', BlkG w' b T vs' → Only (· = b) w w' → K (a.put o.dst undef) w') : o.wp P a w K Q := by
  refine wp_store_mid ty x y ho b 0 _ hx hy (by simpa [hl] using hB.there) (by simpa using hi) (by simpa using h1) (h _ ?_ (setCells_only _ _ _ _))
  have := setCells_blk b T vs' [] vs w (by simpa [BlkG] using hB) (by simp [hl])
  simpa [BlkG] using this
theorem wpList_store_blkG {P : Program} {ops : Array Oper} {rest : List Oper} {o : Oper} {a : Act} {w : World} {Q : Exit → Act → World → Prop} (hgd : o.guard = none) (ty : TypeId) (x y : Operand) (ho : o.op = .store ty x y)
    (b : Nat) (hx : a.eval x = .pointer (some ⟨b, 0, none⟩)) (T : TypeId) (vs vs' : List Value) (hB : BlkG w b T vs) (hy : a.eval y = .agg vs'.toArray) (hl : vs'.length = vs.length) (hi : (P.info? ty).map (·.size) = some vs'.length) (h1 : vs'.all (·.oneCell') = true)
    (h : ∀ w', BlkG w' b T vs' → Only (· = b) w w' → wpList P ops Q rest (a.put o.dst undef) w') : wpList P ops Q (o :: rest) a w :=
  wpList_plain hgd fun _ hK => wp_store_blkG ty x y ho b hx T vs vs' hB hy hl hi h1 fun w' h1 h2 => hK _ _ (h w' h1 h2)
theorem results_blkG {P : Program} {fn : Func} {p : Tmp} {ty : TypeId} (h : fn.results = #[.cell p ty]) (tmps : Array Value) (w : World) (b : Nat) (T : TypeId) (vs : List Value) (d : TypeDesc)
    (hp : tmps.getD p undef = .pointer (some ⟨b, 0, none⟩)) (hB : BlkG w b T vs) (hu : P.underlying ty = some d) (hd : (match d with | .struct _ | .array _ _ => true | _ => false) = true) (hi : (P.info? ty).map (·.size) = some vs.length) :
    (results fn tmps).run P w = .ok (.agg vs.toArray) w := results_cell_row h tmps w b T _ (0, 0) d hp hB hu hd (by simpa using hi)
theorem results_blkG2 {P : Program} {fn : Func} {p r : Tmp} {ty : TypeId} (h : fn.results = #[.cell p ty, .tmp r]) (tmps : Array Value) (w : World) (b : Nat) (T : TypeId) (vs : List Value) (d : TypeDesc)
    (hp : tmps.getD p undef = .pointer (some ⟨b, 0, none⟩)) (hB : BlkG w b T vs) (hu : P.underlying ty = some d) (hd : (match d with | .struct _ | .array _ _ => true | _ => false) = true) (hi : (P.info? ty).map (·.size) = some vs.length) :
    (results fn tmps).run P w = .ok (.tuple #[.agg vs.toArray, tmps.getD r undef]) w := by
  have hp' : tmps[p]?.getD undef = .pointer (some ⟨b, 0, none⟩) := by simpa using hp
  simp [results, h, hp', asAddr, run_loadVar_row w b T ty _ (0, 0) d hB hu hd (by simpa using hi), Sem.run_bind]
end Go.Proofs.YthpallkphamobaaGreatDoor
namespace Go.Proofs.YthpallkphamobaaGreatDoor
open Go.RowKit

/-- An operation whose value is known. -/
theorem wpList_exec {P : Program} {ops : Array Oper} {rest : List Oper} {o : Oper} {a : Act} {w : World} {Q : Exit → Act → World → Prop} (hgd : o.guard = none) (v : Value) (hr : (execOp a.eval o).run P w = .ok (.value v) w) (h : wpList P ops Q rest (a.put o.dst v) w) : wpList P ops Q (o :: rest) a w :=
  wpList_plain hgd fun _ hK => by unfold Oper.wp; rw [hr]; exact hK _ _ h
end Go.Proofs.YthpallkphamobaaGreatDoor
