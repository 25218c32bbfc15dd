/- What a step changes and what it keeps, by sets of blocks. -/
import Derived.Test.YtioihjgobmbanaaKit
import Derived.RangeFuncRecord
namespace Go.Proofs.Ytioihjgobmbanaa
open Go.RowKit

/-- W' is W, but for blocks of O and new ones. -/
structure Only (O : Nat → Prop) (W W' : World) : Prop where
  os : W'.os = W.os
  tape : W'.tape = W.tape
  output : W'.output = W.output
  size : W.heap.size ≤ W'.heap.size
  same : ∀ k, k < W.heap.size → ¬ O k → W'.heap[k]? = W.heap[k]?
/-- The blocks of O are in W' as in W. -/
structure Keep (O : Nat → Prop) (W W' : World) : Prop where
  size : W.heap.size ≤ W'.heap.size
  same : ∀ k, k < W.heap.size → O k → W'.heap[k]? = W.heap[k]?

theorem Only.refl (O : Nat → Prop) (W : World) : Only O W W := ⟨rfl, rfl, rfl, Nat.le_refl _, fun _ _ _ => rfl⟩
theorem Only.trans {O : Nat → Prop} {A B C : World} (h : Only O A B) (k : Only O B C) : Only O A C :=
  ⟨k.os.trans h.os, k.tape.trans h.tape, k.output.trans h.output, Nat.le_trans h.size k.size, fun i hi hn => (k.same i (Nat.lt_of_lt_of_le hi h.size) hn).trans (h.same i hi hn)⟩
theorem Only.mono {O O' : Nat → Prop} {W W' : World} (h : Only O W W') (hO : ∀ k, k < W.heap.size → O k → O' k) : Only O' W W' := ⟨h.os, h.tape, h.output, h.size, fun k hk hn => h.same k hk (fun ho => hn (hO k hk ho))⟩
theorem Only.alloc {O : Nat → Prop} {A W : World} (h : Only O A W) (o : Obj) : Only O A (W.alloc o) :=
  h.trans ⟨rfl, rfl, rfl, by simp, fun k hk _ => Below.heap_alloc W o k hk⟩
theorem Only.drew {O : Nat → Prop} {A W : World} (h : Only O A W) : Only O A W.drew := h.trans ⟨rfl, rfl, rfl, Nat.le_refl _, fun _ _ _ => rfl⟩
theorem Only.putObj {O : Nat → Prop} {A W : World} (h : Only O A W) (l : Nat) (o : Obj) (hl : O l) : Only O A (W.putObj l o) :=
  h.trans ⟨rfl, rfl, rfl, by simp, fun k _ hn => World.putObj_heap_other (fun e => hn (e ▸ hl))⟩
theorem Only.setCell {O : Nat → Prop} {A W : World} (h : Only O A W) (p : Addr) (v : Value) (hl : O p.block) : Only O A (W.setCell p v) :=
  h.trans ⟨rfl, rfl, rfl, by simp [World.setCell], fun k _ hn => Below.heap_setCell W p v k (fun e => hn (e ▸ hl))⟩
theorem Only.below {O : Nat → Prop} {B : Nat} {w W W' : World} (h : Below B w W) (k : Only O W W') (hB : B ≤ W.heap.size) (hO : ∀ i, O i → B ≤ i) : Below B w W' :=
  h.trans ⟨k.os, k.tape, k.output, k.size, fun i hi => k.same i (Nat.lt_of_lt_of_le hi hB) (fun ho => by have := hO i ho; omega)⟩
theorem Below.only {O : Nat → Prop} {W W' : World} (h : Below W.heap.size W W') : Only O W W' := ⟨h.os, h.tape, h.output, h.size, fun k hk _ => h.block k hk⟩
theorem Below.keep {O : Nat → Prop} {W W' : World} (h : Below W.heap.size W W') : Keep O W W' := ⟨h.size, fun k hk _ => h.block k hk⟩
theorem Keep.refl (O : Nat → Prop) (W : World) : Keep O W W := ⟨Nat.le_refl _, fun _ _ _ => rfl⟩
theorem Keep.trans {O : Nat → Prop} {A B C : World} (h : Keep O A B) (k : Keep O B C) : Keep O A C :=
  ⟨Nat.le_trans h.size k.size, fun i hi ho => (k.same i (Nat.lt_of_lt_of_le hi h.size) ho).trans (h.same i hi ho)⟩
theorem Keep.mono {O O' : Nat → Prop} {W W' : World} (h : Keep O W W') (hO : ∀ k, k < W.heap.size → O' k → O k) : Keep O' W W' := ⟨h.size, fun k hk ho => h.same k hk (hO k hk ho)⟩
theorem Keep.setCell {O : Nat → Prop} {A W : World} (h : Keep O A W) (p : Addr) (v : Value) (hl : ¬ O p.block) : Keep O A (W.setCell p v) :=
  h.trans ⟨by simp [World.setCell], fun k _ ho => Below.heap_setCell W p v k (fun e => hl (e ▸ ho))⟩
theorem Keep.putObj {O : Nat → Prop} {A W : World} (h : Keep O A W) (l : Nat) (o : Obj) (hl : ¬ O l) : Keep O A (W.putObj l o) :=
  h.trans ⟨by simp, fun k _ ho => World.putObj_heap_other (fun e => hl (e ▸ ho))⟩
theorem Keep.cell {O : Nat → Prop} {W W' : World} (h : Keep O W W') {a : Addr} {v : Value} (hc : W.cell? a = some v) (ho : O a.block) : W'.cell? a = some v :=
  (World.cell?_of_block (h.same a.block (cell_lt hc) ho)).trans hc
theorem Keep.frozen {O : Nat → Prop} {W W' : World} (h : Keep O W W') {a : Addr} {v : Value} {b : Bool} (hc : W.cell? a = some v) (hf : W.frozen? a = b) (ho : O a.block) : W'.frozen? a = b :=
  (World.frozen?_of_block (h.same a.block (cell_lt hc) ho)).trans hf
theorem Only.cell {O : Nat → Prop} {W W' : World} (h : Only O W W') {a : Addr} {v : Value} (hc : W.cell? a = some v) (ho : ¬ O a.block) : W'.cell? a = some v :=
  (World.cell?_of_block (h.same a.block (cell_lt hc) ho)).trans hc
theorem Only.frozen {O : Nat → Prop} {W W' : World} (h : Only O W W') {a : Addr} {v : Value} {b : Bool} (hc : W.cell? a = some v) (hf : W.frozen? a = b) (ho : ¬ O a.block) : W'.frozen? a = b :=
  (World.frozen?_of_block (h.same a.block (cell_lt hc) ho)).trans hf


end Go.Proofs.Ytioihjgobmbanaa
