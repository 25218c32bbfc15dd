/- The program's digest (layer 23): the blocks of bytes are made. -/
import Derived.Test.YtfieagpidplmoaaShaJ
import Derived.Test.YtfieagpidplmoaaClone
import Derived.Test.YtfieagpidplmoaaZeros
import Derived.Test.YtfieagpidplmoaaRef23H
import Derived.OneCell
namespace Go.Proofs.Ytfieagpidplmoaa
open Go.RowKit

def padK (bs : List (BitVec 8)) (k : Nat) : List (BitVec 8) := padTo bs (padN bs.length) ++ (lenB bs.length).take k
theorem padK_zero (bs : List (BitVec 8)) : padK bs 0 = padTo bs (padN bs.length) := by simp [padK]
theorem padK_all (bs : List (BitVec 8)) : padK bs 8 = padL bs := by
  have : (lenB bs.length).length = 8 := by simp [lenB]
  unfold padK padL padTo
  rw [List.take_of_length_le (by omega)]
theorem padK_succ (bs : List (BitVec 8)) (k : Nat) (h : k < 8) : padK bs (k + 1) = padK bs k ++ [BitVec.ofNat 8 (8 * bs.length / 256 ^ (7 - k))] := by
  unfold padK
  rw [List.take_succ_eq_append_getElem (by simp [lenB]; exact h), ← List.append_assoc]
  simp [lenB]
theorem padK_len (bs : List (BitVec 8)) (k : Nat) (h : k ≤ 8) : (padK bs k).length = bs.length + 1 + padN bs.length + k := by
  simp [padK, padTo_len, lenB]; omega
/-- What Blocks hands back. -/
def MadeB (pl : List (BitVec 8)) (w : World) (e : Ending) (w' : World) : Prop :=
  ∃ bx pa pc, e = .returned (.func (.func 32) #[] #[.pointer (some ⟨bx, 0, none⟩)]) ∧ w'.cell? ⟨bx, 0, none⟩ = some (.slice pa pl.length pc) ∧ RowAt .u8 w' pa (pl.map iv8) ∧ (∀ x, pa = some x → w.heap.size ≤ x.block) ∧ w.heap.size ≤ bx ∧ pl.length ≤ pc ∧ pc ≤ 9223372036854775807 ∧ Below w.heap.size w w'
theorem own_slice {w : World} {base : Nat} {e : TypeId} {v : Value} {n : Nat} {xs : List Value} (h : w.ownsRow base e 1 v n xs) : ∃ a c, v = .slice a n c := by
  rcases h.2 with ⟨rfl, rfl⟩ | ⟨g, cap, cur, rfl, _⟩
  · have := h.1
    simp at this
    subst this
    exact ⟨none, 0, rfl⟩
  · exact ⟨_, cap, rfl⟩
theorem boxed_cell {w : World} {bx : Nat} {v : Value} {T : TypeId} (h : w.heap[bx]? = some (.cells #[v] T)) : w.cell? ⟨bx, 0, none⟩ = some v := by rw [cell_of_row w bx 0 _ T (0, 0) h]; rfl
theorem boxed_free {w : World} {bx : Nat} {v : Value} {T : TypeId} (h : w.heap[bx]? = some (.cells #[v] T)) : w.frozen? ⟨bx, 0, none⟩ = false := frozen_of_row w bx 0 _ T h
theorem boxed_set {w : World} {bx : Nat} {v u : Value} {T : TypeId} (h : w.heap[bx]? = some (.cells #[v] T)) : (w.setCell ⟨bx, 0, none⟩ u).heap[bx]? = some (.cells #[u] T) := by
  rw [heap_setCell_same w bx 0 _ T _ h]; rfl
theorem boxed_ne {w : World} {base bx : Nat} {v u : Value} {e T : TypeId} {n : Nat} {xs : List Value} (h : w.ownsRow base e 1 v n xs) (hb : w.heap[bx]? = some (.cells #[u] T)) (hT : e ≠ T) : v.ownBlock ≠ some bx := by
  rcases h.2 with ⟨rfl, -⟩ | ⟨g, cap, cur, rfl, _, hg, _⟩
  · intro e; cases e
  · intro e2
    have : g = bx := Option.some.inj e2
    subst this
    rw [hg] at hb
    injection hb with hb
    injection hb with h1 h2
    exact hT h2

set_option maxRecDepth 100000 in
set_option maxHeartbeats 1000000 in
theorem blocks_any (bs : List (BitVec 8)) (a : Option Addr) (c : Nat) (w : World) (hrow : RowAt .u8 w a (bs.map iv8)) (hn : a = none → c = 0) (hlen : bs.length < 1000000) :
    Calls Try.prog 16 #[.slice a bs.length c] w (MadeB (padL bs) w) := by
  obtain ⟨i0, hi, hz0, hz1, hz2⟩ := info_parts Try.infoU8
  obtain ⟨zs, hzs⟩ : ∃ zs, zs = bs.map iv8 := ⟨_, rfl⟩
  rw [← hzs] at hrow
  have hzl : bs.length = zs.length := by rw [hzs]; simp
  have hclone := cloneB_any a c zs w (by omega) hrow hn
  obtain ⟨zn, hzn⟩ : ∃ zn, zn = zs.length := ⟨_, rfl⟩
  rw [← hzn] at hzl hclone
  rw [hzl]
  have hlz : zn < 1000000 := by omega
  replace hzl := Lib.hid hzl
  replace hzs := Lib.hid hzs
  replace hclone := Lib.hid hclone
  replace hzn := Lib.hid hzn
  clear hrow
  obtain ⟨z, hz⟩ : ∃ z, z = padN zn := ⟨_, rfl⟩
  have hzb : z < 64 := by rw [hz]; exact padN_lt zn
  have hzz : (120 - ((zn : Int) + 1)) % 64 = (z : Int) := by rw [hz]; unfold padN; omega
  have hzz2 : (120 - ((zn : Int) + 1) % 64) % 64 = (z : Int) := by rw [hz]; unfold padN; omega
  replace hz := Lib.hid hz
  have hy1 : zn + 1 + z ≤ maxLen := by unfold maxLen; omega
  have hy2 : (zn + 1 + z) * 1 ≤ 140737488355328 := by omega
  go_enter Try.func16, Try.ntmps16
  go_wp2_with (first
    | (go_at_call 31; refine hclone.out.mono ?_; rintro e w1 ⟨v1, rfl, ho1, hb1⟩; have hx1 : zn + [(128 : Int)].length ≤ maxLen := (by unfold maxLen; simp; omega); have hx2 : (zn + [(128 : Int)].length) * 1 ≤ 140737488355328 := (by simp; omega); have hx3 : w.heap.size ≤ (w1.alloc (.cells #[.int .u8 128] 5)).heap.size := (by rw [World.size_alloc]; have := hb1.size; omega))
    | (at_builtin; refine wpList_append_row (w1.alloc (.cells #[.int .u8 128] 5)) rfl _ _ 22 rfl w.heap.size 5 i0 (.int .u8 0) 1 Try.underlying22 hi hz0 hz1 hz2 rfl v1 zn _ rfl (ho1.alloc _) (some ⟨w1.heap.size, 0, none⟩) 1 .u8 [128] rfl (by simp) (rowAt_one w1 5 128) hx1 hx2 hx3 ?_; intro v2 w2 ho2 hg2; obtain ⟨a2, c2, rfl⟩ := own_slice ho2; simp only [List.length_cons, List.length_nil, Nat.zero_add] at ho2 ⊢; have hy3 : w.heap.size ≤ (w2.alloc (.cells #[.slice a2 (zn + 1) c2] 22)).heap.size := (by have h1 := hg2.size; have h2 := hb1.size; rw [World.size_alloc] at h1 ⊢; omega))
    | (at_builtin; refine wpList_append_zeros_any (w2.alloc (.cells #[.slice a2 (zn + 1) c2] 22)) rfl _ _ 22 3 rfl w.heap.size 5 i0 (.int .u8 0) 1 .i64 .i64 Try.underlying22 Try.underlying3 hi hz0 hz1 hz2 rfl rfl (.slice a2 (zn + 1) c2) (zn + 1) _ rfl (ho2.alloc _) z (congrArg (Value.int .i64) hzz2) hy1 hy2 hy3 ?_; intro v3 w3 ho3 hg3; obtain ⟨a3, c3, rfl⟩ := own_slice ho3; have hbx : w3.heap[w2.heap.size]? = some (.cells #[.slice a2 (zn + 1) c2] 22) := (hg3.block _ (by rw [World.size_alloc]; omega) (fun e => boxed_ne (ho2.alloc (.cells #[.slice a2 (zn + 1) c2] 22)) (World.alloc_heap_new w2 _) (by decide) e.symm)).trans (World.alloc_heap_new w2 _); have hbc := boxed_cell hbx; have hbf := boxed_free hbx))
  have hb2 : Below w.heap.size w w2 := (xalloc hb1 _).grown hg2 hx3 (fun k hk => (ho1.lt k hk).1)
  have hb3 : Below w.heap.size w w3 := (xalloc hb2 _).grown hg3 hy3 (fun k hk => (ho2.lt k hk).1)
  have hbl := hb2.size
  have hb4 : Below w.heap.size w (w3.setCell ⟨w2.heap.size, 0, none⟩ (.slice a3 (zn + 1 + z) c3)) := xsetb hb3 hbl _
  have hbx4 := boxed_set (u := .slice a3 (zn + 1 + z) c3) hbx
  have ho4 := ownsRow_setCell_other ho3 (a := ⟨w2.heap.size, 0, none⟩) (boxed_ne ho3 hbx (by decide)) (.slice a3 (zn + 1 + z) c3)
  have hoK : (w3.setCell ⟨w2.heap.size, 0, none⟩ (.slice a3 (zn + 1 + z) c3)).ownsRow w.heap.size 5 1 (.slice a3 (zn + 1 + z) c3) (padK bs 0).length (((padK bs 0).map iv8).map (Value.int .u8)) := by
    have e1 : (padK bs 0).length = zn + 1 + z := by rw [padK_len bs 0 (by omega), hzl.out, hz.out]; omega
    have e2 : ((padK bs 0).map iv8).map (Value.int .u8) = zs.map (Value.int .u8) ++ [128].map (Value.int .u8) ++ List.replicate z (Value.int .u8 0) := by
      rw [padK_zero, hzl.out, ← hz.out, hzs.out]
      simp [padTo]
      exact ⟨rfl, .inr rfl⟩
    rw [e1, e2]; exact ho4
  generalize w3.setCell ⟨w2.heap.size, 0, none⟩ (.slice a3 (zn + 1 + z) c3) = w4 at *
  obtain ⟨bx, hbxe⟩ : ∃ bx, bx = w2.heap.size := ⟨_, rfl⟩
  rw [← hbxe] at hbx4 hbl ⊢
  clear ho1 ho2 ho3 ho4 hg2 hg3 hb1 hb2 hb3 hbx hbc hbf hbxe hzz hzz2 hx1 hx2 hx3 hy1 hy2 hy3
  go_loopw [4] (fun iv wx => ∃ (k : Nat) (v : Value), k ≤ 8 ∧ iv = .int .i64 (7 - (k : Int)) ∧ wx.heap[bx]? = some (.cells #[v] 22) ∧ wx.ownsRow w.heap.size 5 1 v (padK bs k).length (((padK bs k).map iv8).map (Value.int .u8)) ∧ Below w.heap.size w wx) (fun iv _ => (intOf iv + 1).toNat)
  case atStart => exact ⟨0, _, by omega, rfl, hbx4, hoK, hb4⟩
  case round =>
    clear hbx4 hoK hb4
    obtain ⟨k, v, hk, rfl, hbx, hown, hb⟩ := hrel
    by_cases hlt : k < 8
    · obtain ⟨j, hj⟩ : ∃ j : Nat, (7 : Int) - k = j := ⟨7 - k, by omega⟩
      rw [hj]
      have hjb : j < 8 := by omega
      have hjk : j = 7 - k := by omega
      have cv := boxed_cell hbx
      have hpk := padK_succ bs k hlt
      have hpl := padK_len bs k (by omega)
      rw [← hjk] at hpk
      replace hpk := Lib.hid hpk
      replace hjk := Lib.hid hjk
      replace hj := Lib.hid hj
      replace hpl := Lib.hid hpl
      replace hown := Lib.hid hown
      replace hbx := Lib.hid hbx
      have h8 : (8 : Int) * (j : Int) < 64 := by omega
      have e1 : IntKind.i64.wrap (8 * (zn : Int)) = 8 * (zn : Int) := by rw [IntKind.wrap_i64]; omega
      have e2 : IntKind.u64.wrap (8 * (zn : Int)) = 8 * (zn : Int) := by rw [IntKind.wrap_u64]; omega
      have e3 : IntKind.i64.wrap (8 * (j : Int)) = 8 * (j : Int) := by rw [IntKind.wrap_i64]; omega
      go_wp2_with fail
      refine wp_region_growL 10 [fixd (v), fixd (.slice a zn c), fixd (.int .i64 zn), fixd (.int .i64 (8 * zn : Int)), fixd (.int .u64 (8 * zn : Int)), fixd (.int .i64 j), fixd (.int .i64 (8 * j : Int)), fixd (.int .u64 (8 * zn / 2 ^ (8 * j) : Int)), fixd (.int .u8 (8 * zn / 2 ^ (8 * j) % 256 : Int)), rowT .u8 [(8 * zn / 2 ^ (8 * j) % 256 : Int)]] (by kernel_rfl) (by kernel_rfl) ?_
      simp only [List.take_succ_cons, List.take_zero, List.drop_succ_cons, List.drop_zero]
      try simp only [Act.put, List.setIfInBounds_toArray, List.set_cons_succ, List.set_cons_zero, List.nil_append, List.cons_append]
      refine wpGrowV_fix _ rfl rfl (fun W hb _ => by have c := cbel hb cv; go_simp; first | exact xrefl W | exact ⟨rfl, xrefl W⟩) ?_
      try simp only [Act.put, List.setIfInBounds_toArray, List.set_cons_succ, List.set_cons_zero, List.nil_append, List.cons_append]
      refine wpGrowV_fix _ rfl rfl (fun W hb _ => by go_simp; first | exact xrefl W | exact ⟨rfl, xrefl W⟩) ?_
      try simp only [Act.put, List.setIfInBounds_toArray, List.set_cons_succ, List.set_cons_zero, List.nil_append, List.cons_append]
      refine wpGrowV_fix _ rfl rfl (fun W hb _ => by go_simp; first | exact xrefl W | exact ⟨rfl, xrefl W⟩) ?_
      try simp only [Act.put, List.setIfInBounds_toArray, List.set_cons_succ, List.set_cons_zero, List.nil_append, List.cons_append]
      refine wpGrowV_fix _ rfl rfl (fun W hb _ => by go_simp; first | exact xrefl W | exact ⟨rfl, xrefl W⟩) ?_
      try simp only [Act.put, List.setIfInBounds_toArray, List.set_cons_succ, List.set_cons_zero, List.nil_append, List.cons_append]
      refine wpGrowV_fix _ rfl rfl (fun W hb _ => by go_simp; first | exact xrefl W | exact ⟨rfl, xrefl W⟩) ?_
      try simp only [Act.put, List.setIfInBounds_toArray, List.set_cons_succ, List.set_cons_zero, List.nil_append, List.cons_append]
      refine wpGrowV_fix _ rfl rfl (fun W hb _ => by go_simp; first | exact xrefl W | exact ⟨rfl, xrefl W⟩) ?_
      try simp only [Act.put, List.setIfInBounds_toArray, List.set_cons_succ, List.set_cons_zero, List.nil_append, List.cons_append]
      refine wpGrowV_fix _ rfl rfl (fun W hb _ => by go_simp; first | exact xrefl W | exact ⟨rfl, xrefl W⟩) ?_
      try simp only [Act.put, List.setIfInBounds_toArray, List.set_cons_succ, List.set_cons_zero, List.nil_append, List.cons_append]
      refine wpGrowV_fix _ rfl rfl (fun W hb _ => by go_simp; first | exact xrefl W | exact ⟨rfl, xrefl W⟩) ?_
      try simp only [Act.put, List.setIfInBounds_toArray, List.set_cons_succ, List.set_cons_zero, List.nil_append, List.cons_append]
      refine wpGrowV_fix _ rfl rfl (fun W hb _ => by go_simp; first | exact xrefl W | exact ⟨rfl, xrefl W⟩) ?_
      try simp only [Act.put, List.setIfInBounds_toArray, List.set_cons_succ, List.set_cons_zero, List.nil_append, List.cons_append]
      refine wpGrowV_any (rowT .u8 [(8 * zn / 2 ^ (8 * j) % 256 : Int)]) rfl rfl (fun W hb _ => ?_) (fun v hv => ?_)
      · go_simp
        exact ⟨⟨⟨_, rfl⟩, fun b e => by cases e; exact rowAt_new W _ _⟩, xalloc (xrefl W) _⟩
      obtain ⟨q1, rfl⟩ := hv
      try simp only [Act.put, List.setIfInBounds_toArray, List.set_cons_succ, List.set_cons_zero, List.nil_append, List.cons_append]
      refine wpGrowV_nil fun W hbW hmem => ?_
      have hq1 : RowAt .u8 W (some ⟨q1, 0, none⟩) [(8 * (zn : Int) / 2 ^ (8 * j) % 256)] := hmem 9 (by decide) q1 rfl
      have hby : (8 * (zn : Int) / 2 ^ (8 * j) % 256) = iv8 (BitVec.ofNat 8 (8 * zn / 256 ^ j)) := by
        unfold iv8
        rw [BitVec.toNat_ofNat, show (256 : Nat) ^ j = 2 ^ (8 * j) by rw [Nat.pow_mul]]
        simp
      rw [hby] at hq1 ⊢
      clear hmem cv e1 e2 e3 h8 hby
      have hownW := own_keep hown.out hbW
      have hbxW : W.heap[bx]? = some (.cells #[v] 22) := (hbW.block bx (Array.getElem?_eq_some_iff.1 hbx.out).1).trans hbx.out
      have hne := boxed_ne hownW hbxW (by decide)
      have hsW := hbW.size
      have hsb := hb.size
      have hszW : w.heap.size ≤ W.heap.size := by omega
      have hx1 : (padK bs k).length + [iv8 (BitVec.ofNat 8 (8 * zn / 256 ^ j))].length ≤ maxLen := by unfold maxLen; rw [hpl.out, hzl.out]; simp; have := padN_lt zn; omega
      have hx2 : ((padK bs k).length + [iv8 (BitVec.ofNat 8 (8 * zn / 256 ^ j))].length) * 1 ≤ 140737488355328 := by rw [hpl.out, hzl.out]; simp; have := padN_lt zn; omega
      go_wp2_with (at_builtin; refine wpList_append_row W rfl _ _ 22 rfl w.heap.size 5 i0 (.int .u8 0) 1 Try.underlying22 hi hz0 hz1 hz2 rfl v (padK bs k).length _ rfl hownW (some ⟨q1, 0, none⟩) 1 .u8 [iv8 (BitVec.ofNat 8 (8 * zn / 256 ^ j))] rfl (by simp) hq1 hx1 hx2 hszW ?_; intro v5 w5 ho5 hg5; obtain ⟨a5, c5, rfl⟩ := own_slice ho5; have hbx5 : w5.heap[bx]? = some (.cells #[v] 22) := (hg5.block bx (Array.getElem?_eq_some_iff.1 hbxW).1 (fun e => hne e.symm)).trans hbxW; have hbc5 := boxed_cell hbx5; have hbf5 := boxed_free hbx5)
      have hbW2 := xtrans hb hbW
      have hb5 : Below w.heap.size w w5 := hbW2.grown hg5 hszW (fun k hk => (hownW.lt k hk).1)
      have hblo : w.heap.size ≤ bx := hbl
      have ho6 := ownsRow_setCell_other ho5 (a := ⟨bx, 0, none⟩) (boxed_ne ho5 hbx5 (by decide)) (.slice a5 ((padK bs k).length + 1) c5)
      refine ⟨⟨k + 1, _, by omega, ?_, boxed_set hbx5, ?_, xsetb hb5 hblo _⟩, ?_⟩
      · have := hj.out; congr 1; omega
      · rw [hpk.out, List.length_append, List.map_append, List.map_append, hzl.out]
        exact ho6
      · simp [intOf]
    · have hk8 : k = 8 := by omega
      subst hk8
      rw [padK_all] at hown
      have hcap : ∀ a n c, v = .slice a n c → n ≤ c ∧ c ≤ 9223372036854775807 := by
        intro a n c e
        rcases hown.2 with ⟨e1, -⟩ | ⟨g, cap, cur, e1, _, _, h1, h2, _⟩
        · rw [e1] at e; injection e with _ e2 e3; subst e2 e3; simp
        · rw [e1] at e; injection e with _ e2 e3; subst e2 e3; exact ⟨h1, h2⟩
      obtain ⟨a6, c6, rfl, hr6, -, hge, -⟩ := rowAt_own hown
      have hcap2 := Lib.hid (hcap _ _ _ rfl)
      clear hcap
      have hbc := boxed_cell hbx
      have h78 : (7 : Int) - ((8 : Nat) : Int) = -1 := by decide
      replace hr6 := Lib.hid hr6
      replace hge := Lib.hid hge
      clear hlt hown hbx
      simp only [List.length_map] at hbc
      replace hbc := Lib.hid hbc
      go_wp2
      go_ret
      exact ⟨bx, a6, c6, rfl, hbc.out, hr6.out, hge.out, hbl, by have := hcap2.out.1; simpa using this, hcap2.out.2, hb⟩
end Go.Proofs.Ytfieagpidplmoaa
