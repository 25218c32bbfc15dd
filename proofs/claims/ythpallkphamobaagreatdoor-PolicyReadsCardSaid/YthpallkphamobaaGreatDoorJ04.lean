/- Texts of this claim, merged; no condition. -/
import Derived.Deep.Cut
import Derived.OneCell
import Derived.Test.YthpallkphamobaaGreatDoorJ00
import Derived.Test.YthpallkphamobaaGreatDoorJ01
import Derived.Test.YthpallkphamobaaGreatDoorJ03
import Derived.Lib.SlBytesRow
import Derived.Laws.IdiomStrings
import Derived.ChangeKeysEq
import Derived.Laws.StructEq
import Derived.RangeFuncNested
import Derived.RangeFuncBound
import Derived.RangeFuncCalls
import Derived.RangeFuncLeaves
import Derived.Shelf.Abstract
import Derived.Shelf.RegionOpen
import Derived.OwnWalkIn
import Derived.TacticsInMore
import Derived.LoopNIn
import Derived.LoopIn
import Derived.StillTailTactics
import Derived.LoopN
import Derived.Test.YthpallkphamobaaGreatDoorJ02
set_option linter.all false
namespace Go.Proofs.YthpallkphamobaaGreatDoor
open Go.RowKit

theorem has_any (a : BitVec 64) (k : Nat) (w : World) (hk : k < 64) : Calls Tryz.prog 81 #[.int .u64 (iv64 a), .int .i64 k] w fun e w' => e = .returned (.bool (hasB a k)) ∧ w = w' := by
  have hm := has_mod a k
  have hb := iv64_bd (shr64 a k)
  have hk2 : (k : Int) < 64 := by omega
  go_enter Tryz.func81, Tryz.ntmps81
  go_wp2
  go_ret
  exact ⟨rfl, rfl⟩
theorem refBelow_any (a b : BitVec 64) (w : World) : Calls Tryz.prog 43 #[.int .u64 (iv64 a), .int .u64 (iv64 b)] w fun e w' => e = .returned (.bool (belowB a b)) ∧ w = w' := by
  have hbl := Lib.hid (below_iff a b)
  generalize belowB a b = r at *
  go_enter Tryz.func43, Tryz.ntmps43
  go_wp2
  go_loop [5] (fun i => ∃ k : Nat, k ≤ 64 ∧ i = .int .i64 k ∧ Hid (∀ j < k, hasB a j = true → hasB b j = true)) (fun i => 64 - (intOf i).toNat)
  case atStart => exact ⟨0, by omega, rfl, Lib.hid fun j h => by omega⟩
  case round =>
    obtain ⟨k, hk, rfl, hs⟩ := hrel
    by_cases hlt : k < 64
    · have hlt2 : (k : Int) < 64 := by omega
      have ha := Lib.hid (fun W => has_any a k W hlt)
      have hb := Lib.hid (fun W => has_any b k W hlt)
      cases e1 : hasB a k
      · rw [e1] at ha
        have ha := Lib.hid ha.out
        go_wp2_with (go_at_call 81; refine (ha.out _).mono ?_; rintro e w' ⟨rfl, rfl⟩)
        refine ⟨⟨k + 1, by omega, rfl, Lib.hid fun j hj h => ?_⟩, by simp [intOf]; omega⟩
        by_cases e : j = k
        · subst e; rw [e1] at h; cases h
        · exact hs.out j (by omega) h
      · rw [e1] at ha
        replace ha := Lib.hid ha.out
        cases e2 : hasB b k
        · rw [e2] at hb
          replace hb := Lib.hid hb.out
          replace e1 := Lib.hid e1
          replace e2 := Lib.hid e2
          go_wp2_with (first
            | (go_at_call 81; (with_reducible refine (ha.out _).mono ?_); rintro e w' ⟨rfl, rfl⟩)
            | (go_at_call 81; refine (hb.out _).mono ?_; rintro e w' ⟨rfl, rfl⟩))
          go_ret
          refine ⟨?_, rfl⟩
          have : r = false := by
            cases r with
            | false => rfl
            | true => have := hbl.out.1 rfl k hlt e1.out; rw [e2.out] at this; cases this
          subst this
          rfl
        · rw [e2] at hb
          replace hb := Lib.hid hb.out
          replace e1 := Lib.hid e1
          replace e2 := Lib.hid e2
          go_wp2_with (first
            | (go_at_call 81; (with_reducible refine (ha.out _).mono ?_); rintro e w' ⟨rfl, rfl⟩)
            | (go_at_call 81; refine (hb.out _).mono ?_; rintro e w' ⟨rfl, rfl⟩))
          refine ⟨⟨k + 1, by omega, rfl, Lib.hid fun j hj h => ?_⟩, by simp [intOf]; omega⟩
          by_cases e : j = k
          · subst e; exact e2.out
          · exact hs.out j (by omega) h
    · obtain rfl : k = 64 := by omega
      clear hlt
      have hr : r = true := hbl.out.2 fun j hj => hs.out j hj
      subst hr
      go_wp2
      go_ret
      exact ⟨rfl, rfl⟩
theorem setBelow_any (a b : BitVec 64) (w : World) : Calls Tryz.prog 109 #[.int .u64 (iv64 a), .int .u64 (iv64 b)] w fun e w' => e = .returned (.bool (belowB a b)) ∧ w = w' := by
  go_enter Tryz.func109, Tryz.ntmps109
  go_wp2
  go_ret
  exact ⟨rfl, rfl⟩
theorem below_any (a b : BitVec 64) (w : World) : Calls Tryz.prog 80 #[.int .u64 (iv64 a), .int .u64 (iv64 b)] w fun e w' => e = .returned (.bool (belowB a b)) ∧ w = w' := by
  have hf : ∀ (x : Int) (W : World), (Instr.field 163 (.agg #[.int .u64 x]) 0).run Tryz.prog W = .ok (.int .u64 x) W := fun x W => by kernel_rfl
  go_enter Tryz.func80, Tryz.ntmps80
  go_wp2_with (go_at_call 109; refine (setBelow_any a b _).mono ?_; rintro e w' ⟨rfl, rfl⟩)
  go_ret
  exact ⟨rfl, rfl⟩
end Go.Proofs.YthpallkphamobaaGreatDoor
namespace Go.Proofs.YthpallkphamobaaGreatDoor
open Go.RowKit

theorem info_int : (Tryz.prog.info? 3).map (fun i => (i.zero, i.size, i.bytes)) = some (some (Value.int .i64 0), 1, 8) := by kernel_rfl
def memI (a : BitVec 64) (k : Nat) : List Int := ((List.range k).filter (hasB a)).map fun j : Nat => (j : Int)
theorem memI_all (a : BitVec 64) : memI a 64 = (memL a).map fun j : Nat => (j : Int) := rfl
theorem memI_yes (a : BitVec 64) (k : Nat) (h : hasB a k = true) : memI a (k + 1) = memI a k ++ [(k : Int)] := by
  unfold memI
  rw [List.range_succ, List.filter_append, List.map_append]
  simp [h]
theorem memI_no (a : BitVec 64) (k : Nat) (h : hasB a k = false) : memI a (k + 1) = memI a k := by
  unfold memI
  rw [List.range_succ, List.filter_append, List.map_append]
  simp [h]
theorem memI_len (a : BitVec 64) (k : Nat) : (memI a k).length ≤ k := by
  unfold memI
  rw [List.length_map]
  have := List.length_filter_le (hasB a) (List.range k)
  rwa [List.length_range] at this
set_option maxRecDepth 100000 in
theorem refMembers_any (a : BitVec 64) (w : World) : Calls Tryz.prog 103 #[.int .u64 (iv64 a)] w fun e w' => ∃ v, e = .returned v ∧ w'.ownsRow w.heap.size 3 1 v (memL a).length (((memL a).map fun j : Nat => (j : Int)).map (Value.int .i64)) ∧ Below w.heap.size w w' := by
  obtain ⟨i0, hi, hz0, hz1, hz2⟩ := info_parts info_int
  have hown0 : Hid (w.ownsRow w.heap.size 3 1 (.slice none 0 0) (memI a 0).length ((memI a 0).map (Value.int .i64))) := Lib.hid (by show w.ownsRow _ _ _ _ 0 []; exact ⟨rfl, .inl ⟨rfl, rfl⟩⟩)
  go_enter Tryz.func103, Tryz.ntmps103
  go_wp2
  go_loopw [3, 4] (fun v i wx => ∃ k : Nat, k ≤ 64 ∧ i = .int .i64 k ∧ Hid (wx.ownsRow w.heap.size 3 1 v (memI a k).length ((memI a k).map (Value.int .i64))) ∧ Below w.heap.size w wx) (fun _ i _ => 64 - (intOf i).toNat)
  case atStart => exact ⟨0, by omega, rfl, hown0, xrefl w⟩
  case round =>
    clear hown0
    obtain ⟨k, hk, rfl, hown, hb⟩ := hrel
    by_cases hlt : k < 64
    · have hlt2 : (k : Int) < 64 := by omega
      have ha := Lib.hid (fun W => has_any a k W hlt)
      have hln := memI_len a k
      cases e1 : hasB a k
      · rw [e1] at ha
        have ha := Lib.hid ha.out
        have hno := Lib.hid (memI_no a k e1)
        replace e1 := Lib.hid e1
        go_wp2_with (go_at_call 81; refine (ha.out _).mono ?_; rintro e w' ⟨rfl, rfl⟩)
        exact ⟨⟨k + 1, by omega, rfl, by rw [hno.out]; exact hown, hb⟩, by simp [intOf]; omega⟩
      · rw [e1] at ha
        have ha := Lib.hid ha.out
        have hyes := Lib.hid (memI_yes a k e1)
        replace e1 := Lib.hid e1
        have hsb : w.heap.size ≤ (wr.alloc (.cells #[.int .i64 (k : Int)] 3)).heap.size := by rw [World.size_alloc]; have := hb.size; omega
        go_wp2_with (first
          | (go_at_call 81; refine (ha.out _).mono ?_; rintro e w' ⟨rfl, rfl⟩)
          | (at_builtin; refine wpList_append_row (wr.alloc (.cells #[.int .i64 (k : Int)] 3)) rfl _ _ 156 rfl w.heap.size 3 i0 (.int .i64 0) 8 Tryz.underlying156 hi hz0 hz1 hz2 rfl _ (memI a k).length _ rfl (hown.out.alloc _) (some ⟨wr.heap.size, 0, none⟩) 1 .i64 [(k : Int)] rfl (by simp) (rowAt_one wr 3 (k : Int)) (by unfold maxLen; simp; omega) (by simp; omega) hsb ?_; intro v3 w3 ho3 hg3))
        have hb3 : Below w.heap.size w w3 := (xalloc hb _).grown hg3 hsb (fun j hj => (hown.out.lt j hj).1)
        refine ⟨⟨k + 1, by omega, rfl, Lib.hid ?_, hb3⟩, by simp [intOf]; omega⟩
        rw [hyes.out, List.length_append, List.map_append]
        exact ho3
    · obtain rfl : k = 64 := by omega
      clear hlt
      rw [memI_all] at hown
      have hown2 := hown.out
      rw [List.length_map] at hown2
      replace hown2 := Lib.hid hown2
      clear hown
      go_wp2
      go_ret
      exact ⟨_, rfl, hown2.out, hb⟩

theorem chr_conv (d : Nat) (hd : d < 10) (W : World) : (convert 93 9 (.slice (some ⟨W.heap.size, 0, none⟩) 1 1)).run Tryz.prog (W.alloc (.cells #[.int .u8 (48 + (d : Int))] 5)) = .ok (.string ⟨#[UInt8.ofNat (48 + d)]⟩) (W.alloc (.cells #[.int .u8 (48 + (d : Int))] 5)) := by
  refine run_convert_bytes_back (P := Tryz.prog) _ 93 9 5 ⟨W.heap.size, 0, none⟩ 1 [UInt8.ofNat (48 + d)] Tryz.underlying93 Tryz.underlying5 Tryz.underlying9 ?_
  intro j hj
  obtain rfl : j = 0 := by simp at hj; omega
  have h := cell_of_row (W.alloc (.cells #[.int .u8 (48 + (d : Int))] 5)) W.heap.size 0 _ 5 (0, 0) (World.alloc_heap_new W _)
  show (W.alloc (.cells #[.int .u8 (48 + (d : Int))] 5)).cell? ⟨W.heap.size, 0, none⟩ = _
  rw [h]
  have := u8_nat d (by omega)
  simp only [List.getElem_cons_zero, this]
  rfl
theorem str_cons (c : UInt8) (t : List UInt8) : (⟨#[c]⟩ : ByteArray) ++ ⟨t.toArray⟩ = ⟨(c :: t).toArray⟩ := by
  apply ByteArray.ext
  rw [ByteArray.data_append]
  simp
set_option maxRecDepth 100000 in
theorem refNumber_any (n : Nat) (w : World) (hn : n < 100) : Calls Tryz.prog 66 #[.int .u64 n] w fun e w' => e = .returned (.string ⟨(Lib.decDigits n).toArray⟩) ∧ Below w.heap.size w w' := by
  go_enter Tryz.func66, Tryz.ntmps66
  go_wp2
  go_loopw [0, 3] (fun x s wx => ∃ (m : Nat) (t : List UInt8), m < 100 ∧ t.length ≤ 100 - m ∧ x = .int .u64 m ∧ s = .string ⟨t.toArray⟩ ∧ Hid (Lib.decDigits m ++ t = Lib.decDigits n) ∧ Below w.heap.size w wx) (fun x _ _ => (intOf x).toNat)
  case atStart => exact ⟨n, [], hn, by simp, rfl, rfl, Lib.hid (by simp), xrefl w⟩
  case round =>
    obtain ⟨m, t, hm, htl, rfl, rfl, hd, hb⟩ := hrel
    obtain ⟨d, hd1⟩ : ∃ d, d = m % 10 := ⟨_, rfl⟩
    obtain ⟨q, hq1⟩ : ∃ q, q = m / 10 := ⟨_, rfl⟩
    have hd2 : (m : Int) % 10 = (d : Int) := by omega
    have hq2 : (m : Int) / 10 = (q : Int) := by omega
    have hd10 : d < 10 := by omega
    have hcv := chr_conv d hd10 wr
    have hsc := str_cons (UInt8.ofNat (48 + d)) t
    have e1 : IntKind.u8.wrap (48 + (d : Int)) = 48 + (d : Int) := by rw [IntKind.wrap_u8]; omega
    obtain ⟨cc, hcc⟩ : ∃ c, c = UInt8.ofNat (48 + d) := ⟨_, rfl⟩
    rw [← hcc] at hsc hcv
    replace hsc := Lib.hid hsc
    by_cases h10 : m < 10
    · have hdm : d = m := by omega
      have hq0 : (m : Int) / 10 = 0 := by omega
      clear hq2
      have hfin : Hid (cc :: t = Lib.decDigits n) := Lib.hid (by rw [← hd.out, dec_lo m h10, hcc, hdm]; rfl)
      replace hcc := Lib.hid hcc
      replace hd1 := Lib.hid hd1
      replace hq1 := Lib.hid hq1
      replace hdm := Lib.hid hdm
      go_wp2
      go_ret
      refine ⟨?_, xalloc hb _⟩
      exact congrArg Ending.returned (congrArg Value.string (hsc.out.trans (by rw [hfin.out])))
    · have hq0 : ¬ (q : Int) = 0 := by omega
      have hfin : Hid (Lib.decDigits q ++ (cc :: t) = Lib.decDigits n) := Lib.hid (by
        rw [← hd.out, Lib.decDigits.eq_def m, dif_neg h10, ← hq1, ← hd1, hcc]
        simp)
      have hqm : q < m := by omega
      have hq100 : q < 100 := by omega
      have htl2 : (cc :: t).length ≤ 100 - q := by simp; omega
      replace hcc := Lib.hid hcc
      replace hd1 := Lib.hid hd1
      replace hq1 := Lib.hid hq1
      go_wp2
      refine ⟨⟨q, cc :: t, hq100, htl2, rfl, ?_, hfin, xalloc hb _⟩, by simp [intOf]; omega⟩
      exact congrArg Value.string hsc.out

def joinTo (l : List Nat) (i : Nat) : List UInt8 := Lib.join ((l.take i).map Lib.decDigits) [44]
theorem join_snoc (y sep : List UInt8) : ∀ xs : List (List UInt8), xs ≠ [] → Lib.join (xs ++ [y]) sep = Lib.join xs sep ++ sep ++ y
  | [], h => absurd rfl h
  | x :: r, _ => by
    rw [List.cons_append, Lib.join_cons, Lib.join_cons]
    simp [Lib.joinTail]
theorem joinTo_one (l : List Nat) (h : 0 < l.length) : joinTo l 1 = Lib.decDigits l[0] := by
  unfold joinTo
  match l, h with
  | x :: l, _ => exact Lib.join_one _ _
theorem joinTo_succ (l : List Nat) (i : Nat) (h0 : 0 < i) (h : i < l.length) : joinTo l (i + 1) = joinTo l i ++ [44] ++ Lib.decDigits l[i] := by
  unfold joinTo
  rw [List.take_succ_eq_append_getElem h, List.map_append]
  refine join_snoc _ _ _ fun e => ?_
  have := congrArg List.length e
  rw [List.length_map, List.length_take, List.length_nil] at this
  omega
theorem dec_len (k : Nat) (h : k < 100) : (Lib.decDigits k).length ≤ 2 := by
  by_cases e : k < 10
  · rw [dec_lo k e]; simp
  · rw [dec_hi k (by omega) h]; simp
theorem joinTo_len (l : List Nat) (hl : ∀ k ∈ l, k < 64) : ∀ i, 0 < i → i ≤ l.length → (joinTo l i).length ≤ 3 * i
  | 1, _, h => by
    rw [joinTo_one l h]
    have := dec_len l[0] (by have := hl l[0] (List.getElem_mem _); omega)
    omega
  | i + 2, _, h => by
    have ih := joinTo_len l hl (i + 1) (by omega) (by omega)
    rw [joinTo_succ l (i + 1) (by omega) (by omega), List.length_append, List.length_append]
    have := dec_len l[i + 1] (by have := hl l[i + 1] (List.getElem_mem _); omega)
    simp; omega
theorem str_add (x y : List UInt8) : (⟨x.toArray⟩ : ByteArray) ++ ⟨y.toArray⟩ = ⟨(x ++ y).toArray⟩ := by
  apply ByteArray.ext
  rw [ByteArray.data_append]
  simp
def strL (l : List UInt8) : Value := .string ⟨l.toArray⟩
set_option maxRecDepth 100000 in
theorem refText_any (a : BitVec 64) (w : World) : Calls Tryz.prog 65 #[.int .u64 (iv64 a)] w fun e w' => e = .returned (strL (textL a)) ∧ Below w.heap.size w w' := by
  have hm := Lib.hid (refMembers_any a w)
  have htx : Hid (memL a ≠ [] → textL a = joinTo (memL a) (memL a).length) := Lib.hid fun h => by unfold textL joinTo; rw [if_neg h, List.take_length]
  have hlt : ∀ k ∈ memL a, k < 64 := fun k h => mem_lt h
  have hln := mem_len a
  by_cases h0 : memL a = []
  · have ht : textL a = [45] := by unfold textL; rw [if_pos h0]
    rw [ht]
    have hm' := hm.out
    rw [h0] at hm'
    replace hm' := Lib.hid hm'
    replace h0 := Lib.hid h0
    replace ht := Lib.hid ht
    clear hm hlt
    unfold strL
    go_enter Tryz.func65, Tryz.ntmps65
    go_wp2_with (go_at_call 103; refine hm'.out.mono ?_; rintro e w1 ⟨v, rfl, hown, hb1⟩; obtain ⟨a1, c1, rfl, -, -, -, -⟩ := rowAt_own (q := .i64) (zs := []) (by simpa using hown); simp only [List.length_nil])
    go_ret
    exact ⟨rfl, hb1⟩
  · have ht := htx.out h0
    rw [ht]
    generalize memL a = l at *
    have hl0 : 0 < l.length := by
      cases l with
      | nil => exact absurd rfl h0
      | cons x l => simp
    have hl1 : ((l.length : Int) == 0) = false := by rw [beq_eq_false_iff_ne]; omega
    have hl2 : (0 : Int) < l.length := by omega
    replace h0 := Lib.hid h0
    replace ht := Lib.hid ht
    replace hlt := Lib.hid hlt
    have hN := Lib.hid (fun (k : Nat) (hk : k < 100) W => refNumber_any k W hk)
    clear htx
    unfold strL
    go_enter Tryz.func65, Tryz.ntmps65
    have hj1 := Lib.hid (joinTo_one l hl0)
    have hx0 : Hid (l[0] < 64) := Lib.hid (hlt.out _ (List.getElem_mem hl0))
    go_upto_region 2 with (go_at_call 103; refine hm.out.mono ?_; rintro e w1 ⟨v, rfl, hown, hb1⟩; obtain ⟨a1, c1, rfl, hr1, -, -, -⟩ := rowAt_own hown; rw [List.length_map])
    obtain ⟨b, o, rfl, hc0⟩ := hr1 0 (by rw [List.length_map]; exact hl0)
    rw [List.getElem_map, Nat.add_zero] at hc0
    have hx0' := hx0.out
    generalize hx : l[0] = x0 at hc0 hj1 hx0'
    replace hx := Lib.hid hx
    have e0 : IntKind.u64.wrap (x0 : Int) = (x0 : Int) := by rw [IntKind.wrap_u64]; omega
    replace hr1 := Lib.hid hr1
    clear hx0 hown
    have hx100 : x0 < 100 := by omega
    go_wp2_with (go_at_call 66; refine (hN.out x0 hx100 _).mono ?_; rintro e w2 ⟨rfl, hb2⟩)
    have hr2 := Lib.hid (hr1.out.below hb2)
    have hb02 := xtrans hb1 hb2
    rw [← hj1.out]
    clear hc0 hb1 hb2 hr1 e0
    go_loopw [4, 5] (fun s i wx => ∃ k : Nat, 1 ≤ k ∧ k ≤ l.length ∧ i = .int .i64 k ∧ s = .string ⟨(joinTo l k).toArray⟩ ∧ Hid (RowAt .i64 wx (some ⟨b, o, none⟩) (l.map fun j : Nat => (j : Int))) ∧ Below w.heap.size w wx) (fun _ i _ => l.length - (intOf i).toNat)
    case atStart => exact ⟨1, by omega, by omega, rfl, rfl, hr2, hb02⟩
    case round =>
      clear hr2 hb02
      obtain ⟨k, hk1, hk, rfl, rfl, hr, hb⟩ := hrel
      by_cases hlt1 : k < l.length
      · have hlt2 : (k : Int) < l.length := by omega
        obtain ⟨b', o', eb, hc⟩ := hr.out k (by rw [List.length_map]; exact hlt1)
        cases eb
        rw [List.getElem_map] at hc
        have hjs := joinTo_succ l k (by omega) hlt1
        have hjl := joinTo_len l hlt.out k (by omega) hk
        have hxk := hlt.out _ (List.getElem_mem hlt1)
        generalize l[k] = xk at hc hjs hxk
        have e1 : IntKind.u64.wrap (xk : Int) = (xk : Int) := by rw [IntKind.wrap_u64]; omega
        have hdl := dec_len xk (by omega)
        generalize joinTo l k = t at *
        have hs1 := str_add t [44]
        have hs2 := str_add (t ++ [44]) (Lib.decDigits xk)
        have hx100 : xk < 100 := by omega
        generalize hdd : Lib.decDigits xk = dd at *
        have hNk := Lib.hid (fun W => hdd ▸ hN.out xk hx100 W)
        replace hdd := Lib.hid hdd
        replace hs1 := Lib.hid hs1
        replace hs2 := Lib.hid hs2
        replace hjs := Lib.hid hjs
        go_wp2_with (go_at_call 66; refine (hNk.out _).mono ?_; rintro e w3 ⟨rfl, hb3⟩)
        refine ⟨⟨k + 1, by omega, by omega, rfl, ?_, Lib.hid (hr.out.below hb3), xtrans hb hb3⟩, by simp [intOf]; omega⟩
        rw [hjs.out]
        exact congrArg Value.string ((congrArg (· ++ _) hs1.out).trans hs2.out)
      · obtain rfl : k = l.length := by omega
        clear hlt1
        generalize hT : joinTo l l.length = t at *
        replace hT := Lib.hid hT
        go_wp2
        go_ret
        exact ⟨by rw [hT.out]; rfl, hb⟩
end Go.Proofs.YthpallkphamobaaGreatDoor
namespace Go.Proofs.YthpallkphamobaaGreatDoor
open Go.RowKit

theorem run_part_int {P : Program} (e : TypeId) (q q' : IntKind) (l : List Int) (k : Nat) (w : World) (he : P.underlying e = some (.int q')) (hk : k < l.length) : (part e (l.map (Value.int q)).toArray k).run P w = .ok (.int q l[k]) w := by
  have hagg : (isAgg e).run P w = .ok false w := by
    unfold isAgg
    rw [Sem.run_bind, run_underlying he w]
    rfl
  simp [part, hagg, Sem.run_bind, hk]
/-- Two arrays of integers are compared. -/
theorem run_eqItems_ints {P : Program} (d : Nat) (e : TypeId) (q q' : IntKind) (l l' : List Int) (w : World) (he : P.underlying e = some (.int q')) (hl : l.length = l'.length) :
    ∀ (m k : Nat), k + m = l.length → (Op.eqItems (d + 1) e 1 (l.map (Value.int q)).toArray (l'.map (Value.int q)).toArray (List.range' k m)).run P w = .ok (decide (l.drop k = l'.drop k)) w
  | 0, k, h => by
    rw [List.drop_eq_nil_of_le (by omega), List.drop_eq_nil_of_le (by omega)]
    simp [Op.eqItems]
  | m + 1, k, h => by
    have hk : k < l.length := by omega
    have hk' : k < l'.length := by omega
    have ih := run_eqItems_ints d e q q' l l' w he hl m (k + 1) (by omega)
    have h1 := run_part_int e q q' l k w he hk
    have h2 := run_part_int e q q' l' k w he hk'
    have h3 := run_equalIn_int (P := P) w d e q q' l[k] l'[k] he
    have hd : decide (l.drop k = l'.drop k) = (l[k] == l'[k] && decide (l.drop (k + 1) = l'.drop (k + 1))) := by
      rw [List.drop_eq_getElem_cons hk, List.drop_eq_getElem_cons hk', Bool.eq_iff_iff, decide_eq_true_iff, Bool.and_eq_true, beq_iff_eq, decide_eq_true_iff, List.cons.injEq]
    simp only [List.range'_succ, Op.eqItems, Sem.run_bind, Nat.mul_one, h1, h2, h3, Result.andThen_ok]
    rw [hd]
    by_cases c : l[k] = l'[k]
    · simp [c, ih]
    · simp [c]
theorem run_eql_ints {P : Program} (T e : TypeId) (n : Nat) (q q' : IntKind) (l l' : List Int) (w : World) (hT : P.underlying T = some (.array n e)) (he : P.underlying e = some (.int q')) (hs : (P.info? e).isSome = true) (hc : P.cellsOf e = 1)
    (hn : l.length = n) (hn' : l'.length = n) : (binOp .eql T (.agg (l.map (Value.int q)).toArray) (.agg (l'.map (Value.int q)).toArray)).run P w = .ok (.bool (decide (l = l'))) w := by
  obtain ⟨i, hi⟩ := Option.isSome_iff_exists.1 hs
  rw [run_eql_struct, show (10000 : Nat) = 9999 + 1 from rfl, run_equalIn_array w 9999 _ _ hT hi, hc, List.range_eq_range', run_eqItems_ints 9998 e q q' l l' w he (by omega) n 0 (by omega)]
  simp
end Go.Proofs.YthpallkphamobaaGreatDoor
namespace Go.Proofs.YthpallkphamobaaGreatDoor
open Go.RowKit Go.Shelf

/-- J abides what an iterator does that owns the blocks O, all from B on: it writes to these, and makes new ones. -/
def Stable {β : Type} (B : Nat) (J : (Nat → Prop) → β → World → Prop) : Prop :=
  ∀ (O O' : Nat → Prop) (s : β) (W W' : World), J O s W → (∀ k, O k → B ≤ k) → Only O W W' → (∀ k, O' k → O k ∨ W.heap.size ≤ k) → J O' s W'

/-- How the body of a round may be left. -/
def postB {α : Type} (O : Nat → Prop) (I : (Nat → Prop) → List α → World → Prop) (Ix : Code → (Nat → Prop) → List α → World → Prop) (K : Nat → Prop) (xs : List α) (W : World) : Exit → Act → World → Prop
  | .normal, _, W' => Keep K W W' ∧ I O xs W'
  | .ret, _, W' => Keep K W W' ∧ Ix .ret O xs W'
  | .exit id, _, W' => Keep K W W' ∧ Ix (.exit id) O xs W'
  | .goto t, _, W' => Keep K W W' ∧ Ix (.goto t) O xs W'
  | .panic _, _, _ => False
  | .outgrown, _, _ => False

end Go.Proofs.YthpallkphamobaaGreatDoor
namespace Go.Proofs.YthpallkphamobaaGreatDoor
open Go.RowKit

theorem run_eql_at {P : Program} {o : Oper} {ac : Act} {w : World} (T r : TypeId) (x y : Operand) (ho : o.op = .binOp .eql T x y r) (e : TypeId) (n : Nat) (q q' : IntKind) (l l' : List Int) (hx : ac.eval x = .agg (l.map (Value.int q)).toArray) (hy : ac.eval y = .agg (l'.map (Value.int q)).toArray)
    (hT : P.underlying T = some (.array n e)) (he : P.underlying e = some (.int q')) (hs : (P.info? e).isSome = true) (hc : P.cellsOf e = 1) (hm : P.eqGuardType P.depth T = false) (hn : l.length = n) (hn' : l'.length = n) : (execOp ac.eval o).run P w = .ok (.value (.bool (decide (l = l')))) w := by
  unfold execOp
  simp only [ho, hx, hy, Sem.run_bind, Sem.run_pure, Result.andThen_ok, run_eqGuard_agg (hm := hm), run_eql_ints T e n q q' l l' w hT he hs hc hn hn']
theorem own_slice {w : World} {base : Nat} {e : TypeId} {v : Value} {n : Nat} {xs : List Value} (h : w.ownsRow base e 1 v n xs) : ∃ a c, v = .slice a n c := by
  rcases h.2 with ⟨rfl, rfl⟩ | ⟨g, cap, cur, rfl, _⟩
  · have := h.1
    simp at this
    subst this
    exact ⟨none, 0, rfl⟩
  · exact ⟨_, cap, rfl⟩
theorem boxed_cell {w : World} {bx : Nat} {v : Value} {T : TypeId} (h : w.heap[bx]? = some (.cells #[v] T)) : w.cell? ⟨bx, 0, none⟩ = some v := by rw [cell_of_row w bx 0 _ T (0, 0) h]; rfl
theorem boxed_free {w : World} {bx : Nat} {v : Value} {T : TypeId} (h : w.heap[bx]? = some (.cells #[v] T)) : w.frozen? ⟨bx, 0, none⟩ = false := frozen_of_row w bx 0 _ T h
theorem boxed_set {w : World} {bx : Nat} {v u : Value} {T : TypeId} (h : w.heap[bx]? = some (.cells #[v] T)) : (w.setCell ⟨bx, 0, none⟩ u).heap[bx]? = some (.cells #[u] T) := by
  rw [heap_setCell_same w bx 0 _ T _ h]; rfl
theorem boxed_ne {w : World} {base bx : Nat} {v u : Value} {e T : TypeId} {n : Nat} {xs : List Value} (h : w.ownsRow base e 1 v n xs) (hb : w.heap[bx]? = some (.cells #[u] T)) (hT : e ≠ T) : v.ownBlock ≠ some bx := by
  rcases h.2 with ⟨rfl, -⟩ | ⟨g, cap, cur, rfl, _, hg, _⟩
  · intro e; cases e
  · intro e2
    have : g = bx := Option.some.inj e2
    subst this
    rw [hg] at hb
    injection hb with hb
    injection hb with h1 h2
    exact hT h2
theorem wp_mid {P : Program} {c : Code} {Q : Exit → Act → World → Prop} {a : Act} {w : World} (id : Nat) (M : Act → Act → World → Prop) (h1 : c.wp P (fun e a' w' => (e = .normal ∨ e = .exit id) ∧ M a a' w') a w)
    (h2 : ∀ a' w', M a a' w' → Q .normal a' w') (h3 : ∀ a' w', Q .normal a' w' → Q (.exit id) a' w') : c.wp P Q a w :=
  wp_mono h1 fun e a' w' ⟨he, hM⟩ => by
    rcases he with rfl | rfl
    · exact h2 _ _ hM
    · exact h3 _ _ (h2 _ _ hM)
def bigF (x y : Int) : Int := if y > x then y else x
def smallF (x y : Int) : Int := if y < x then y else x
@[go_sem high] theorem run_max_big {P : Program} {w : World} (ts : Array TypeId) (t : TypeId) (k k' : IntKind) (x y : Int) : (Builtin.max_ ts t #[.int k x, .int k' y]).run P w = .ok (.int k (bigF x y)) w := run_max_int2 w ts t k k' x y
@[go_sem high] theorem run_min_small {P : Program} {w : World} (ts : Array TypeId) (t : TypeId) (k k' : IntKind) (x y : Int) : (Builtin.min_ ts t #[.int k x, .int k' y]).run P w = .ok (.int k (smallF x y)) w := run_min_int2 w ts t k k' x y
def Box (W : World) (k : Nat) (v : Value) (T : TypeId) : Prop := W.heap[k]? = some (.cells #[v] T)
theorem Box.cell {W : World} {k : Nat} {v : Value} {T : TypeId} (h : Box W k v T) : W.cell? ⟨k, 0, none⟩ = some v := boxed_cell h
theorem Box.lt {W : World} {k : Nat} {v : Value} {T : TypeId} (h : Box W k v T) : k < W.heap.size := (Array.getElem?_eq_some_iff.1 h).1
theorem Box.only {W W' : World} {k : Nat} {v : Value} {T : TypeId} {O : Nat → Prop} (h : Box W k v T) (ho : Only O W W') (hb : ¬ O k) : Box W' k v T := (ho.same k h.lt hb).trans h
theorem Box.below {W W' : World} {k : Nat} {v : Value} {T : TypeId} (h : Box W k v T) (hb : Below W.heap.size W W') : Box W' k v T := (hb.block k h.lt).trans h
theorem Box.new (W : World) (v : Value) (T : TypeId) : Box (W.alloc (.cells #[v] T)) W.heap.size v T := World.alloc_heap_new W _
end Go.Proofs.YthpallkphamobaaGreatDoor
