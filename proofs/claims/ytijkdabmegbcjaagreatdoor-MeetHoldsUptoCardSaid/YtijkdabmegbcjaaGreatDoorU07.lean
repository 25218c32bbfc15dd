/- Texts of this claim, merged; no condition. -/
import Derived.Lib.SlBytesRow
import Derived.Laws.IdiomStrings
import Derived.Test.YtijkdabmegbcjaaGreatDoorU06
import Derived.Test.YtijkdabmegbcjaaGreatDoorU02
import Derived.Test.YtijkdabmegbcjaaGreatDoorU00
set_option linter.all false
namespace Go.Proofs.YtijkdabmegbcjaaGreatDoor
open Go.RowKit

/-- Code, as a slice of bytes. -/
structure CodeAt (w : World) (a : Option Addr) (c : Nat) (cs : List Nat) : Prop where
  row : RowAt .u8 w a (natI cs)
  nil : a = none → c = 0
  len : cs.length ≤ 200
  ok : ∀ x ∈ cs, x < 256
  cap : cs.length ≤ c ∧ c ≤ 9223372036854775807
theorem CodeAt.below {w w' : World} {a : Option Addr} {c : Nat} {cs : List Nat} (h : CodeAt w a c cs) (hb : Below w.heap.size w w') : CodeAt w' a c cs := ⟨h.row.below hb, h.nil, h.len, h.ok, h.cap⟩
theorem CodeAt.get {w : World} {a : Option Addr} {c : Nat} {cs : List Nat} (h : CodeAt w a c cs) {i : Nat} (hi : i < cs.length) : ∃ b o, a = some ⟨b, o, none⟩ ∧ w.cell? ⟨b, o + i, none⟩ = some (.int .u8 (byN cs i)) ∧ byN cs i < 256 := by
  obtain ⟨b, o, e, hc⟩ := h.row i (by rw [natI_len]; exact hi)
  refine ⟨b, o, e, ?_, byN_lt h.ok i⟩
  rw [hc, natI_get]
  unfold byN
  rw [List.getD_eq_getElem?_getD, List.getElem?_eq_getElem hi]
  rfl
/-- Code of any length that the statements' second form allows. -/
structure CodeL (w : World) (a : Option Addr) (c : Nat) (cs : List Nat) : Prop where
  row : RowAt .u8 w a (natI cs)
  nil : a = none → c = 0
  len : cs.length ≤ 1048576
  ok : ∀ x ∈ cs, x < 256
  cap : cs.length ≤ c ∧ c ≤ 9223372036854775807
theorem CodeAt.long {w : World} {a : Option Addr} {c : Nat} {cs : List Nat} (h : CodeAt w a c cs) : CodeL w a c cs := ⟨h.row, h.nil, by have := h.len; omega, h.ok, h.cap⟩
theorem CodeL.below {w w' : World} {a : Option Addr} {c : Nat} {cs : List Nat} (h : CodeL w a c cs) (hb : Below w.heap.size w w') : CodeL w' a c cs := ⟨h.row.below hb, h.nil, h.len, h.ok, h.cap⟩
theorem CodeL.get {w : World} {a : Option Addr} {c : Nat} {cs : List Nat} (h : CodeL w a c cs) {i : Nat} (hi : i < cs.length) : ∃ b o, a = some ⟨b, o, none⟩ ∧ w.cell? ⟨b, o + i, none⟩ = some (.int .u8 (byN cs i)) ∧ byN cs i < 256 := by
  obtain ⟨b, o, e, hc⟩ := h.row i (by rw [natI_len]; exact hi)
  refine ⟨b, o, e, ?_, byN_lt h.ok i⟩
  rw [hc, natI_get]
  unfold byN
  rw [List.getD_eq_getElem?_getD, List.getElem?_eq_getElem hi]
  rfl
/-- A row of numbers, as a slice of ints. -/
structure IntsAt (w : World) (a : Option Addr) (c : Nat) (l : List Nat) : Prop where
  row : RowAt .i64 w a (natI l)
  nil : a = none → c = 0
theorem IntsAt.below {w w' : World} {a : Option Addr} {c : Nat} {l : List Nat} (h : IntsAt w a c l) (hb : Below w.heap.size w w') : IntsAt w' a c l := ⟨h.row.below hb, h.nil⟩
theorem IntsAt.get {w : World} {a : Option Addr} {c : Nat} {l : List Nat} (h : IntsAt w a c l) {i : Nat} (hi : i < l.length) : ∃ b o, a = some ⟨b, o, none⟩ ∧ w.cell? ⟨b, o + i, none⟩ = some (.int .i64 (l[i] : Int)) := by
  obtain ⟨b, o, e, hc⟩ := h.row i (by rw [natI_len]; exact hi)
  exact ⟨b, o, e, by rw [hc, natI_get]⟩
/-- A slice of ints that a call made: its numbers. -/
def OwnI (w w' : World) (v : Value) (l : List Nat) : Prop := w'.ownsRow w.heap.size 3 1 v l.length ((natI l).map (Value.int .i64))
theorem OwnI.at {w w' : World} {v : Value} {l : List Nat} (h : OwnI w w' v l) : ∃ a c, v = .slice a l.length c ∧ IntsAt w' a c l ∧ (∀ x, a = some x → w.heap.size ≤ x.block) := by
  obtain ⟨a, c, e, hr, hn, hx, -⟩ := rowAt_own h
  rw [natI_len] at e
  exact ⟨a, c, e, ⟨hr, hn⟩, hx⟩
theorem OwnI.nil (w : World) : OwnI w w (.slice none 0 0) [] := ⟨rfl, .inl ⟨rfl, rfl⟩⟩
theorem OwnI.below {w w' w2 : World} {v : Value} {l : List Nat} (h : OwnI w w' v l) (hb : Below w'.heap.size w' w2) : OwnI w w2 v l := own_keep h hb
theorem OwnI.base {w w0 w' : World} {v : Value} {l : List Nat} (h : OwnI w w' v l) (hb : w0.heap.size ≤ w.heap.size) : OwnI w0 w' v l := own_base h hb

theorem dig_dec (n : Nat) (h : n < 100) : digN n = Lib.decDigits n := by
  unfold digN
  split
  · rename_i h1; rw [dec_lo n h1]
  · rename_i h1; rw [dec_hi n (by omega) h]
theorem info_int : (Tryz.prog.info? 3).map (fun i => (i.zero, i.size, i.bytes)) = some (some (Value.int .i64 0), 1, 8) := by kernel_rfl
end Go.Proofs.YtijkdabmegbcjaaGreatDoor
namespace Go.Proofs.YtijkdabmegbcjaaGreatDoor
open Go.RowKit

theorem chr_conv (d : Nat) (hd : d < 10) (W : World) : (convert 22 9 (.slice (some ⟨W.heap.size, 0, none⟩) 1 1)).run Tryz.prog (W.alloc (.cells #[.int .u8 (48 + (d : Int))] 5)) = .ok (.string ⟨#[UInt8.ofNat (48 + d)]⟩) (W.alloc (.cells #[.int .u8 (48 + (d : Int))] 5)) := by
  refine run_convert_bytes_back (P := Tryz.prog) _ 22 9 5 ⟨W.heap.size, 0, none⟩ 1 [UInt8.ofNat (48 + d)] Tryz.underlying22 Tryz.underlying5 Tryz.underlying9 ?_
  intro j hj
  obtain rfl : j = 0 := by simp at hj; omega
  have h := cell_of_row (W.alloc (.cells #[.int .u8 (48 + (d : Int))] 5)) W.heap.size 0 _ 5 (0, 0) (World.alloc_heap_new W _)
  show (W.alloc (.cells #[.int .u8 (48 + (d : Int))] 5)).cell? ⟨W.heap.size, 0, none⟩ = _
  rw [h]
  have := u8_nat d (by omega)
  simp only [List.getElem_cons_zero, this]
  rfl
theorem str_cons (c : UInt8) (t : List UInt8) : (⟨#[c]⟩ : ByteArray) ++ ⟨t.toArray⟩ = ⟨(c :: t).toArray⟩ := by
  apply ByteArray.ext
  rw [ByteArray.data_append]
  simp
theorem str_add (x y : List UInt8) : (⟨x.toArray⟩ : ByteArray) ++ ⟨y.toArray⟩ = ⟨(x ++ y).toArray⟩ := by
  apply ByteArray.ext
  rw [ByteArray.data_append]
  simp
set_option maxRecDepth 100000 in
theorem refNumber_any (n : Nat) (w : World) (hn : n < 100) : Calls Tryz.prog 102 #[.int .u64 n] w fun e w' => e = .returned (.string ⟨(digN n).toArray⟩) ∧ Below w.heap.size w w' := by
  rw [dig_dec n hn]
  go_enter Tryz.func102, Tryz.ntmps102
  go_wp2
  go_loopw [0, 3] (fun x s wx => ∃ (m : Nat) (t : List UInt8), m < 100 ∧ t.length ≤ 100 - m ∧ x = .int .u64 m ∧ s = .string ⟨t.toArray⟩ ∧ Hid (Lib.decDigits m ++ t = Lib.decDigits n) ∧ Below w.heap.size w wx) (fun x _ _ => (intOf x).toNat)
  case atStart => exact ⟨n, [], hn, by simp, rfl, rfl, Lib.hid (by simp), xrefl w⟩
  case round =>
    obtain ⟨m, t, hm, htl, rfl, rfl, hd, hb⟩ := hrel
    obtain ⟨d, hd1⟩ : ∃ d, d = m % 10 := ⟨_, rfl⟩
    obtain ⟨q, hq1⟩ : ∃ q, q = m / 10 := ⟨_, rfl⟩
    have hd2 : (m : Int) % 10 = (d : Int) := by omega
    have hq2 : (m : Int) / 10 = (q : Int) := by omega
    have hd10 : d < 10 := by omega
    have hcv := chr_conv d hd10 wr
    have hsc := str_cons (UInt8.ofNat (48 + d)) t
    have e1 : IntKind.u8.wrap (48 + (d : Int)) = 48 + (d : Int) := by rw [IntKind.wrap_u8]; omega
    obtain ⟨cc, hcc⟩ : ∃ c, c = UInt8.ofNat (48 + d) := ⟨_, rfl⟩
    rw [← hcc] at hsc hcv
    replace hsc := Lib.hid hsc
    by_cases h10 : m < 10
    · have hdm : d = m := by omega
      have hq0 : (m : Int) / 10 = 0 := by omega
      clear hq2
      have hfin : Hid (cc :: t = Lib.decDigits n) := Lib.hid (by rw [← hd.out, dec_lo m h10, hcc, hdm]; rfl)
      replace hcc := Lib.hid hcc
      replace hd1 := Lib.hid hd1
      replace hq1 := Lib.hid hq1
      replace hdm := Lib.hid hdm
      go_wp2
      go_ret
      refine ⟨?_, xalloc hb _⟩
      exact congrArg Ending.returned (congrArg Value.string (hsc.out.trans (by rw [hfin.out])))
    · have hq0 : ¬ (q : Int) = 0 := by omega
      have hfin : Hid (Lib.decDigits q ++ (cc :: t) = Lib.decDigits n) := Lib.hid (by
        rw [← hd.out, Lib.decDigits.eq_def m, dif_neg h10, ← hq1, ← hd1, hcc]
        simp)
      have hqm : q < m := by omega
      have hq100 : q < 100 := by omega
      have htl2 : (cc :: t).length ≤ 100 - q := by simp; omega
      replace hcc := Lib.hid hcc
      replace hd1 := Lib.hid hd1
      replace hq1 := Lib.hid hq1
      go_wp2
      refine ⟨⟨q, cc :: t, hq100, htl2, rfl, ?_, hfin, xalloc hb _⟩, by simp [intOf]; omega⟩
      exact congrArg Value.string hsc.out
end Go.Proofs.YtijkdabmegbcjaaGreatDoor
namespace Go.Proofs.YtijkdabmegbcjaaGreatDoor
open Go.RowKit

theorem fam_push {n : Nat} (h1 : 1 ≤ n) (h2 : n ≤ 32) : infoN (n + 95) = ⟨[80, 85, 83, 72] ++ digN n, 0, 1, 3, true, n⟩ := by
  unfold infoN famN
  rw [if_pos (by omega)]
  simp
theorem fam_dup {n : Nat} (h1 : 1 ≤ n) (h2 : n ≤ 16) : infoN (n + 127) = ⟨[68, 85, 80] ++ digN n, n, n + 1, 3, true, 0⟩ := by
  unfold infoN famN
  rw [if_neg (by omega), if_pos (by omega)]
  simp
theorem fam_swap {n : Nat} (h1 : 1 ≤ n) (h2 : n ≤ 16) : infoN (n + 143) = ⟨[83, 87, 65, 80] ++ digN n, n + 1, n + 1, 3, true, 0⟩ := by
  unfold infoN famN
  rw [if_neg (by omega), if_neg (by omega), if_pos (by omega)]
  simp
theorem fam_log {n : Nat} (h2 : n ≤ 4) : infoN (n + 160) = ⟨[76, 79, 71] ++ digN n, n + 2, 0, 375 * (n + 1), false, 0⟩ := by
  unfold infoN famN
  rw [if_neg (by omega), if_neg (by omega), if_neg (by omega), if_pos (by omega)]
  simp
theorem fam_none {c : Nat} (h : ¬ (96 ≤ c ∧ c ≤ 164)) : famN c = none := by
  unfold famN
  rw [if_neg (by omega), if_neg (by omega), if_neg (by omega), if_neg (by omega)]
theorem bytes_eq : ((⟨#[]⟩ : ByteArray) == ⟨#[]⟩) = true := by decide
def noV : List Value := [.string ⟨#[]⟩, .int .i64 0, .int .i64 0, .int .u64 0, .bool false, .int .i64 0]
def infL (x : InfoN) : List Value := [.string ⟨x.name.toArray⟩, .int .i64 x.ins, .int .i64 x.outs, .int .u64 x.gas, .bool x.quiet, .int .i64 x.size]
theorem struct_info : ∃ fs, Tryz.prog.underlying 113 = some (.struct fs) := ⟨_, Tryz.underlying113⟩
theorem dig_len (n : Nat) : (digN n).length ≤ 2 := by unfold digN; split <;> simp
theorem wrap64_small (n : Nat) (h : n < 1000) : IntKind.u64.wrap (n : Int) = n := by
  simp [IntKind.wrap, IntKind.bits, IntKind.signed]; omega
set_option maxRecDepth 100000 in
set_option maxHeartbeats 2000000 in
theorem refInfo_push (n : Nat) (w : World) (h1 : 1 ≤ n) (h2 : n ≤ 32) : Calls Tryz.prog 70 #[.int .u8 ((n + 95 : Nat) : Int)] w fun e w' => e = .returned (infoV ⟨[80, 85, 83, 72] ++ digN n, 0, 1, 3, true, n⟩) ∧ Below w.heap.size w w' := by
  have hN := Lib.hid refNumber_any
  have hB0 : BlkG (w.alloc (.cells noV.toArray 113)) w.heap.size 113 noV := BlkG.new w _ _
  have hb0 : Below w.heap.size w (w.alloc (.cells noV.toArray 113)) := xalloc (xrefl w) _
  replace hB0 := Lib.hid hB0
  have hn : Hid (n < 100) := Lib.hid (by omega)
  have hn2 : n ≤ 32 := by omega
  obtain ⟨fs, hu⟩ := struct_info
  have w1 := wrap64_small n (by omega)
  have e0 : ((n + 95 : Nat) : Int) - 95 = n := by omega
  have a1 : (96 : Int) ≤ ((n + 95 : Nat) : Int) := by omega
  have a2 : ((n + 95 : Nat) : Int) ≤ 127 := by omega
  have e2 := Lib.hid (str_add [80, 85, 83, 72] (digN n))
  generalize hz : ((n + 95 : Nat) : Int) = z at *
  replace hz := Lib.hid hz
  have hgl : (digN n).length ≤ 2 := dig_len n
  generalize hg : digN n = g at *
  replace hg := Lib.hid hg
  go_enter Tryz.func70, Tryz.ntmps70
  go_wp2_with (first
    | (go_at_call 102; refine (hN.out n _ hn.out).mono ?_; rintro e w1 ⟨rfl, hb1⟩; rw [hg.out]; have hB1 := Lib.hid (hB0.out.below hb1))
    | (refine wpList_store_blkG rfl 113 _ _ rfl w.heap.size rfl 113 noV (infL ⟨[80, 85, 83, 72] ++ g, 0, 1, 3, true, n⟩) hB1.out (by rw [infL, ← e2.out]; rfl) rfl (by kernel_rfl) rfl ?_; intro w2 hB2 ho2; replace hB2 := Lib.hid hB2; replace ho2 := Lib.hid ho2))
  refine bodyPost_ret (results_blkG rfl _ _ w.heap.size 113 _ _ rfl hB2.out hu rfl (by kernel_rfl)) rfl ⟨rfl, ?_⟩
  exact ho2.out.below (xtrans hb0 hb1) (Nat.le_trans hb0.size hb1.size) (by rintro i rfl; omega)
set_option maxRecDepth 100000 in
set_option maxHeartbeats 2000000 in
theorem refInfo_dup (n : Nat) (w : World) (h1 : 1 ≤ n) (h2 : n ≤ 16) : Calls Tryz.prog 70 #[.int .u8 ((n + 127 : Nat) : Int)] w fun e w' => e = .returned (infoV ⟨[68, 85, 80] ++ digN n, n, n + 1, 3, true, 0⟩) ∧ Below w.heap.size w w' := by
  have hN := Lib.hid refNumber_any
  have hB0 : BlkG (w.alloc (.cells noV.toArray 113)) w.heap.size 113 noV := BlkG.new w _ _
  have hb0 : Below w.heap.size w (w.alloc (.cells noV.toArray 113)) := xalloc (xrefl w) _
  replace hB0 := Lib.hid hB0
  have hn : Hid (n < 100) := Lib.hid (by omega)
  have hn2 : n ≤ 32 := by omega
  obtain ⟨fs, hu⟩ := struct_info
  have w1 := wrap64_small n (by omega)
  have e0 : ((n + 127 : Nat) : Int) - 127 = n := by omega
  have e1 : ((n + 127 : Nat) : Int) - 126 = ((n + 1 : Nat) : Int) := by omega
  have a1 : (128 : Int) ≤ ((n + 127 : Nat) : Int) := by omega
  have a2 : ((n + 127 : Nat) : Int) ≤ 143 := by omega
  have e2 := Lib.hid (str_add [68, 85, 80] (digN n))
  generalize hz : ((n + 127 : Nat) : Int) = z at *
  replace hz := Lib.hid hz
  have hgl : (digN n).length ≤ 2 := dig_len n
  generalize hg : digN n = g at *
  replace hg := Lib.hid hg
  go_enter Tryz.func70, Tryz.ntmps70
  go_wp2_with (first
    | (go_at_call 102; refine (hN.out n _ hn.out).mono ?_; rintro e w1 ⟨rfl, hb1⟩; rw [hg.out]; have hB1 := Lib.hid (hB0.out.below hb1))
    | (refine wpList_store_blkG rfl 113 _ _ rfl w.heap.size rfl 113 noV (infL ⟨[68, 85, 80] ++ g, n, n + 1, 3, true, 0⟩) hB1.out (by rw [infL, ← e2.out]; rfl) rfl (by kernel_rfl) rfl ?_; intro w2 hB2 ho2; replace hB2 := Lib.hid hB2; replace ho2 := Lib.hid ho2))
  refine bodyPost_ret (results_blkG rfl _ _ w.heap.size 113 _ _ rfl hB2.out hu rfl (by kernel_rfl)) rfl ⟨rfl, ?_⟩
  exact ho2.out.below (xtrans hb0 hb1) (Nat.le_trans hb0.size hb1.size) (by rintro i rfl; omega)
set_option maxRecDepth 100000 in
set_option maxHeartbeats 2000000 in
theorem refInfo_swap (n : Nat) (w : World) (h1 : 1 ≤ n) (h2 : n ≤ 16) : Calls Tryz.prog 70 #[.int .u8 ((n + 143 : Nat) : Int)] w fun e w' => e = .returned (infoV ⟨[83, 87, 65, 80] ++ digN n, n + 1, n + 1, 3, true, 0⟩) ∧ Below w.heap.size w w' := by
  have hN := Lib.hid refNumber_any
  have hB0 : BlkG (w.alloc (.cells noV.toArray 113)) w.heap.size 113 noV := BlkG.new w _ _
  have hb0 : Below w.heap.size w (w.alloc (.cells noV.toArray 113)) := xalloc (xrefl w) _
  replace hB0 := Lib.hid hB0
  have hn : Hid (n < 100) := Lib.hid (by omega)
  have hn2 : n ≤ 32 := by omega
  obtain ⟨fs, hu⟩ := struct_info
  have w1 := wrap64_small n (by omega)
  have e0 : ((n + 143 : Nat) : Int) - 143 = n := by omega
  have e1 : ((n + 143 : Nat) : Int) - 142 = ((n + 1 : Nat) : Int) := by omega
  have a1 : (144 : Int) ≤ ((n + 143 : Nat) : Int) := by omega
  have a2 : ((n + 143 : Nat) : Int) ≤ 159 := by omega
  have e2 := Lib.hid (str_add [83, 87, 65, 80] (digN n))
  generalize hz : ((n + 143 : Nat) : Int) = z at *
  replace hz := Lib.hid hz
  have hgl : (digN n).length ≤ 2 := dig_len n
  generalize hg : digN n = g at *
  replace hg := Lib.hid hg
  go_enter Tryz.func70, Tryz.ntmps70
  go_wp2_with (first
    | (go_at_call 102; refine (hN.out n _ hn.out).mono ?_; rintro e w1 ⟨rfl, hb1⟩; rw [hg.out]; have hB1 := Lib.hid (hB0.out.below hb1))
    | (refine wpList_store_blkG rfl 113 _ _ rfl w.heap.size rfl 113 noV (infL ⟨[83, 87, 65, 80] ++ g, n + 1, n + 1, 3, true, 0⟩) hB1.out (by rw [infL, ← e2.out]; rfl) rfl (by kernel_rfl) rfl ?_; intro w2 hB2 ho2; replace hB2 := Lib.hid hB2; replace ho2 := Lib.hid ho2))
  refine bodyPost_ret (results_blkG rfl _ _ w.heap.size 113 _ _ rfl hB2.out hu rfl (by kernel_rfl)) rfl ⟨rfl, ?_⟩
  exact ho2.out.below (xtrans hb0 hb1) (Nat.le_trans hb0.size hb1.size) (by rintro i rfl; omega)
set_option maxRecDepth 100000 in
set_option maxHeartbeats 2000000 in
theorem refInfo_log (n : Nat) (w : World) (h2 : n ≤ 4) : Calls Tryz.prog 70 #[.int .u8 ((n + 160 : Nat) : Int)] w fun e w' => e = .returned (infoV ⟨[76, 79, 71] ++ digN n, n + 2, 0, 375 * (n + 1), false, 0⟩) ∧ Below w.heap.size w w' := by
  have hN := Lib.hid refNumber_any
  have hB0 : BlkG (w.alloc (.cells noV.toArray 113)) w.heap.size 113 noV := BlkG.new w _ _
  have hb0 : Below w.heap.size w (w.alloc (.cells noV.toArray 113)) := xalloc (xrefl w) _
  replace hB0 := Lib.hid hB0
  have hn : Hid (n < 100) := Lib.hid (by omega)
  have hn2 : n ≤ 32 := by omega
  obtain ⟨fs, hu⟩ := struct_info
  have w1 := wrap64_small n (by omega)
  have w2 := wrap64_small (n + 1) (by omega)
  have w3 : IntKind.u64.wrap (375 * ((n + 1 : Nat) : Int)) = ((375 * (n + 1) : Nat) : Int) := by simp [IntKind.wrap, IntKind.bits, IntKind.signed]; omega
  have e0 : ((n + 160 : Nat) : Int) - 160 = n := by omega
  have e1 : ((n + 160 : Nat) : Int) - 158 = ((n + 2 : Nat) : Int) := by omega
  have e3 : ((n + 160 : Nat) : Int) - 159 = ((n + 1 : Nat) : Int) := by omega
  have a1 : (160 : Int) ≤ ((n + 160 : Nat) : Int) := by omega
  have a2 : ((n + 160 : Nat) : Int) ≤ 164 := by omega
  have e2 := Lib.hid (str_add [76, 79, 71] (digN n))
  generalize hz : ((n + 160 : Nat) : Int) = z at *
  replace hz := Lib.hid hz
  have hgl : (digN n).length ≤ 2 := dig_len n
  generalize hg : digN n = g at *
  replace hg := Lib.hid hg
  go_enter Tryz.func70, Tryz.ntmps70
  go_wp2_with (first
    | (go_at_call 102; refine (hN.out n _ hn.out).mono ?_; rintro e w1 ⟨rfl, hb1⟩; rw [hg.out]; have hB1 := Lib.hid (hB0.out.below hb1))
    | (refine wpList_store_blkG rfl 113 _ _ rfl w.heap.size rfl 113 noV (infL ⟨[76, 79, 71] ++ g, n + 2, 0, 375 * (n + 1), false, 0⟩) hB1.out (by rw [infL, ← e2.out]; rfl) rfl (by kernel_rfl) rfl ?_; intro w2 hB2 ho2; replace hB2 := Lib.hid hB2; replace ho2 := Lib.hid ho2))
  refine bodyPost_ret (results_blkG rfl _ _ w.heap.size 113 _ _ rfl hB2.out hu rfl (by kernel_rfl)) rfl ⟨rfl, ?_⟩
  exact ho2.out.below (xtrans hb0 hb1) (Nat.le_trans hb0.size hb1.size) (by rintro i rfl; omega)
end Go.Proofs.YtijkdabmegbcjaaGreatDoor
namespace Go.Proofs.YtijkdabmegbcjaaGreatDoor
open Go.RowKit

set_option maxRecDepth 100000 in
set_option maxHeartbeats 4000000 in
theorem refLow_any (c : Nat) (w : World) : Calls Tryz.prog 103 #[.int .u8 c] w fun e w' => e = .returned (infoV (rowGet c lowRows)) ∧ Below w.heap.size w w' := by
  by_cases h0 : c = 0
  · subst h0
    go_enter Tryz.func103, Tryz.ntmps103
    go_wp2
    refine bodyPost_ret (v := .agg #[.string { data := #[83, 84, 79, 80] }, .int .i64 0, .int .i64 0, .int .u64 0, .bool false, .int .i64 0]) (by simp [results, Tryz.results103, go_sem]) rfl ⟨rfl, ?_⟩
    repeat (first | exact xrefl _ | refine xalloc ?_ _ | refine xset ?_ (by simp) _)
  by_cases h1 : c = 1
  · subst h1
    go_enter Tryz.func103, Tryz.ntmps103
    go_wp2
    refine bodyPost_ret (v := .agg #[.string { data := #[65, 68, 68] }, .int .i64 2, .int .i64 1, .int .u64 3, .bool true, .int .i64 0]) (by simp [results, Tryz.results103, go_sem]) rfl ⟨rfl, ?_⟩
    repeat (first | exact xrefl _ | refine xalloc ?_ _ | refine xset ?_ (by simp) _)
  by_cases h2 : c = 2
  · subst h2
    go_enter Tryz.func103, Tryz.ntmps103
    go_wp2
    refine bodyPost_ret (v := .agg #[.string { data := #[77, 85, 76] }, .int .i64 2, .int .i64 1, .int .u64 5, .bool true, .int .i64 0]) (by simp [results, Tryz.results103, go_sem]) rfl ⟨rfl, ?_⟩
    repeat (first | exact xrefl _ | refine xalloc ?_ _ | refine xset ?_ (by simp) _)
  by_cases h3 : c = 3
  · subst h3
    go_enter Tryz.func103, Tryz.ntmps103
    go_wp2
    refine bodyPost_ret (v := .agg #[.string { data := #[83, 85, 66] }, .int .i64 2, .int .i64 1, .int .u64 3, .bool true, .int .i64 0]) (by simp [results, Tryz.results103, go_sem]) rfl ⟨rfl, ?_⟩
    repeat (first | exact xrefl _ | refine xalloc ?_ _ | refine xset ?_ (by simp) _)
  by_cases h4 : c = 4
  · subst h4
    go_enter Tryz.func103, Tryz.ntmps103
    go_wp2
    refine bodyPost_ret (v := .agg #[.string { data := #[68, 73, 86] }, .int .i64 2, .int .i64 1, .int .u64 5, .bool true, .int .i64 0]) (by simp [results, Tryz.results103, go_sem]) rfl ⟨rfl, ?_⟩
    repeat (first | exact xrefl _ | refine xalloc ?_ _ | refine xset ?_ (by simp) _)
  by_cases h5 : c = 5
  · subst h5
    go_enter Tryz.func103, Tryz.ntmps103
    go_wp2
    refine bodyPost_ret (v := .agg #[.string { data := #[83, 68, 73, 86] }, .int .i64 2, .int .i64 1, .int .u64 5, .bool true, .int .i64 0]) (by simp [results, Tryz.results103, go_sem]) rfl ⟨rfl, ?_⟩
    repeat (first | exact xrefl _ | refine xalloc ?_ _ | refine xset ?_ (by simp) _)
  by_cases h6 : c = 6
  · subst h6
    go_enter Tryz.func103, Tryz.ntmps103
    go_wp2
    refine bodyPost_ret (v := .agg #[.string { data := #[77, 79, 68] }, .int .i64 2, .int .i64 1, .int .u64 5, .bool true, .int .i64 0]) (by simp [results, Tryz.results103, go_sem]) rfl ⟨rfl, ?_⟩
    repeat (first | exact xrefl _ | refine xalloc ?_ _ | refine xset ?_ (by simp) _)
  by_cases h7 : c = 7
  · subst h7
    go_enter Tryz.func103, Tryz.ntmps103
    go_wp2
    refine bodyPost_ret (v := .agg #[.string { data := #[83, 77, 79, 68] }, .int .i64 2, .int .i64 1, .int .u64 5, .bool true, .int .i64 0]) (by simp [results, Tryz.results103, go_sem]) rfl ⟨rfl, ?_⟩
    repeat (first | exact xrefl _ | refine xalloc ?_ _ | refine xset ?_ (by simp) _)
  by_cases h8 : c = 8
  · subst h8
    go_enter Tryz.func103, Tryz.ntmps103
    go_wp2
    refine bodyPost_ret (v := .agg #[.string { data := #[65, 68, 68, 77, 79, 68] }, .int .i64 3, .int .i64 1, .int .u64 8, .bool true, .int .i64 0]) (by simp [results, Tryz.results103, go_sem]) rfl ⟨rfl, ?_⟩
    repeat (first | exact xrefl _ | refine xalloc ?_ _ | refine xset ?_ (by simp) _)
  by_cases h9 : c = 9
  · subst h9
    go_enter Tryz.func103, Tryz.ntmps103
    go_wp2
    refine bodyPost_ret (v := .agg #[.string { data := #[77, 85, 76, 77, 79, 68] }, .int .i64 3, .int .i64 1, .int .u64 8, .bool true, .int .i64 0]) (by simp [results, Tryz.results103, go_sem]) rfl ⟨rfl, ?_⟩
    repeat (first | exact xrefl _ | refine xalloc ?_ _ | refine xset ?_ (by simp) _)
  by_cases h10 : c = 10
  · subst h10
    go_enter Tryz.func103, Tryz.ntmps103
    go_wp2
    refine bodyPost_ret (v := .agg #[.string { data := #[69, 88, 80] }, .int .i64 2, .int .i64 1, .int .u64 10, .bool false, .int .i64 0]) (by simp [results, Tryz.results103, go_sem]) rfl ⟨rfl, ?_⟩
    repeat (first | exact xrefl _ | refine xalloc ?_ _ | refine xset ?_ (by simp) _)
  by_cases h11 : c = 11
  · subst h11
    go_enter Tryz.func103, Tryz.ntmps103
    go_wp2
    refine bodyPost_ret (v := .agg #[.string { data := #[83, 73, 71, 78, 69, 88, 84, 69, 78, 68] }, .int .i64 2, .int .i64 1, .int .u64 5, .bool true, .int .i64 0]) (by simp [results, Tryz.results103, go_sem]) rfl ⟨rfl, ?_⟩
    repeat (first | exact xrefl _ | refine xalloc ?_ _ | refine xset ?_ (by simp) _)
  by_cases h16 : c = 16
  · subst h16
    go_enter Tryz.func103, Tryz.ntmps103
    go_wp2
    refine bodyPost_ret (v := .agg #[.string { data := #[76, 84] }, .int .i64 2, .int .i64 1, .int .u64 3, .bool true, .int .i64 0]) (by simp [results, Tryz.results103, go_sem]) rfl ⟨rfl, ?_⟩
    repeat (first | exact xrefl _ | refine xalloc ?_ _ | refine xset ?_ (by simp) _)
  by_cases h17 : c = 17
  · subst h17
    go_enter Tryz.func103, Tryz.ntmps103
    go_wp2
    refine bodyPost_ret (v := .agg #[.string { data := #[71, 84] }, .int .i64 2, .int .i64 1, .int .u64 3, .bool true, .int .i64 0]) (by simp [results, Tryz.results103, go_sem]) rfl ⟨rfl, ?_⟩
    repeat (first | exact xrefl _ | refine xalloc ?_ _ | refine xset ?_ (by simp) _)
  by_cases h18 : c = 18
  · subst h18
    go_enter Tryz.func103, Tryz.ntmps103
    go_wp2
    refine bodyPost_ret (v := .agg #[.string { data := #[83, 76, 84] }, .int .i64 2, .int .i64 1, .int .u64 3, .bool true, .int .i64 0]) (by simp [results, Tryz.results103, go_sem]) rfl ⟨rfl, ?_⟩
    repeat (first | exact xrefl _ | refine xalloc ?_ _ | refine xset ?_ (by simp) _)
  by_cases h19 : c = 19
  · subst h19
    go_enter Tryz.func103, Tryz.ntmps103
    go_wp2
    refine bodyPost_ret (v := .agg #[.string { data := #[83, 71, 84] }, .int .i64 2, .int .i64 1, .int .u64 3, .bool true, .int .i64 0]) (by simp [results, Tryz.results103, go_sem]) rfl ⟨rfl, ?_⟩
    repeat (first | exact xrefl _ | refine xalloc ?_ _ | refine xset ?_ (by simp) _)
  by_cases h20 : c = 20
  · subst h20
    go_enter Tryz.func103, Tryz.ntmps103
    go_wp2
    refine bodyPost_ret (v := .agg #[.string { data := #[69, 81] }, .int .i64 2, .int .i64 1, .int .u64 3, .bool true, .int .i64 0]) (by simp [results, Tryz.results103, go_sem]) rfl ⟨rfl, ?_⟩
    repeat (first | exact xrefl _ | refine xalloc ?_ _ | refine xset ?_ (by simp) _)
  by_cases h21 : c = 21
  · subst h21
    go_enter Tryz.func103, Tryz.ntmps103
    go_wp2
    refine bodyPost_ret (v := .agg #[.string { data := #[73, 83, 90, 69, 82, 79] }, .int .i64 1, .int .i64 1, .int .u64 3, .bool true, .int .i64 0]) (by simp [results, Tryz.results103, go_sem]) rfl ⟨rfl, ?_⟩
    repeat (first | exact xrefl _ | refine xalloc ?_ _ | refine xset ?_ (by simp) _)
  by_cases h22 : c = 22
  · subst h22
    go_enter Tryz.func103, Tryz.ntmps103
    go_wp2
    refine bodyPost_ret (v := .agg #[.string { data := #[65, 78, 68] }, .int .i64 2, .int .i64 1, .int .u64 3, .bool true, .int .i64 0]) (by simp [results, Tryz.results103, go_sem]) rfl ⟨rfl, ?_⟩
    repeat (first | exact xrefl _ | refine xalloc ?_ _ | refine xset ?_ (by simp) _)
  by_cases h23 : c = 23
  · subst h23
    go_enter Tryz.func103, Tryz.ntmps103
    go_wp2
    refine bodyPost_ret (v := .agg #[.string { data := #[79, 82] }, .int .i64 2, .int .i64 1, .int .u64 3, .bool true, .int .i64 0]) (by simp [results, Tryz.results103, go_sem]) rfl ⟨rfl, ?_⟩
    repeat (first | exact xrefl _ | refine xalloc ?_ _ | refine xset ?_ (by simp) _)
  by_cases h24 : c = 24
  · subst h24
    go_enter Tryz.func103, Tryz.ntmps103
    go_wp2
    refine bodyPost_ret (v := .agg #[.string { data := #[88, 79, 82] }, .int .i64 2, .int .i64 1, .int .u64 3, .bool true, .int .i64 0]) (by simp [results, Tryz.results103, go_sem]) rfl ⟨rfl, ?_⟩
    repeat (first | exact xrefl _ | refine xalloc ?_ _ | refine xset ?_ (by simp) _)
  by_cases h25 : c = 25
  · subst h25
    go_enter Tryz.func103, Tryz.ntmps103
    go_wp2
    refine bodyPost_ret (v := .agg #[.string { data := #[78, 79, 84] }, .int .i64 1, .int .i64 1, .int .u64 3, .bool true, .int .i64 0]) (by simp [results, Tryz.results103, go_sem]) rfl ⟨rfl, ?_⟩
    repeat (first | exact xrefl _ | refine xalloc ?_ _ | refine xset ?_ (by simp) _)
  by_cases h26 : c = 26
  · subst h26
    go_enter Tryz.func103, Tryz.ntmps103
    go_wp2
    refine bodyPost_ret (v := .agg #[.string { data := #[66, 89, 84, 69] }, .int .i64 2, .int .i64 1, .int .u64 3, .bool true, .int .i64 0]) (by simp [results, Tryz.results103, go_sem]) rfl ⟨rfl, ?_⟩
    repeat (first | exact xrefl _ | refine xalloc ?_ _ | refine xset ?_ (by simp) _)
  by_cases h27 : c = 27
  · subst h27
    go_enter Tryz.func103, Tryz.ntmps103
    go_wp2
    refine bodyPost_ret (v := .agg #[.string { data := #[83, 72, 76] }, .int .i64 2, .int .i64 1, .int .u64 3, .bool true, .int .i64 0]) (by simp [results, Tryz.results103, go_sem]) rfl ⟨rfl, ?_⟩
    repeat (first | exact xrefl _ | refine xalloc ?_ _ | refine xset ?_ (by simp) _)
  by_cases h28 : c = 28
  · subst h28
    go_enter Tryz.func103, Tryz.ntmps103
    go_wp2
    refine bodyPost_ret (v := .agg #[.string { data := #[83, 72, 82] }, .int .i64 2, .int .i64 1, .int .u64 3, .bool true, .int .i64 0]) (by simp [results, Tryz.results103, go_sem]) rfl ⟨rfl, ?_⟩
    repeat (first | exact xrefl _ | refine xalloc ?_ _ | refine xset ?_ (by simp) _)
  · rw [show rowGet c lowRows = noInfo by simp [rowGet, lowRows, h0, h1, h2, h3, h4, h5, h6, h7, h8, h9, h10, h11, h16, h17, h18, h19, h20, h21, h22, h23, h24, h25, h26, h27, h28]]
    replace h0 : ((c : Int) == 0) = false := by rw [beq_eq_false_iff_ne]; omega
    replace h1 : ((c : Int) == 1) = false := by rw [beq_eq_false_iff_ne]; omega
    replace h2 : ((c : Int) == 2) = false := by rw [beq_eq_false_iff_ne]; omega
    replace h3 : ((c : Int) == 3) = false := by rw [beq_eq_false_iff_ne]; omega
    replace h4 : ((c : Int) == 4) = false := by rw [beq_eq_false_iff_ne]; omega
    replace h5 : ((c : Int) == 5) = false := by rw [beq_eq_false_iff_ne]; omega
    replace h6 : ((c : Int) == 6) = false := by rw [beq_eq_false_iff_ne]; omega
    replace h7 : ((c : Int) == 7) = false := by rw [beq_eq_false_iff_ne]; omega
    replace h8 : ((c : Int) == 8) = false := by rw [beq_eq_false_iff_ne]; omega
    replace h9 : ((c : Int) == 9) = false := by rw [beq_eq_false_iff_ne]; omega
    replace h10 : ((c : Int) == 10) = false := by rw [beq_eq_false_iff_ne]; omega
    replace h11 : ((c : Int) == 11) = false := by rw [beq_eq_false_iff_ne]; omega
    replace h16 : ((c : Int) == 16) = false := by rw [beq_eq_false_iff_ne]; omega
    replace h17 : ((c : Int) == 17) = false := by rw [beq_eq_false_iff_ne]; omega
    replace h18 : ((c : Int) == 18) = false := by rw [beq_eq_false_iff_ne]; omega
    replace h19 : ((c : Int) == 19) = false := by rw [beq_eq_false_iff_ne]; omega
    replace h20 : ((c : Int) == 20) = false := by rw [beq_eq_false_iff_ne]; omega
    replace h21 : ((c : Int) == 21) = false := by rw [beq_eq_false_iff_ne]; omega
    replace h22 : ((c : Int) == 22) = false := by rw [beq_eq_false_iff_ne]; omega
    replace h23 : ((c : Int) == 23) = false := by rw [beq_eq_false_iff_ne]; omega
    replace h24 : ((c : Int) == 24) = false := by rw [beq_eq_false_iff_ne]; omega
    replace h25 : ((c : Int) == 25) = false := by rw [beq_eq_false_iff_ne]; omega
    replace h26 : ((c : Int) == 26) = false := by rw [beq_eq_false_iff_ne]; omega
    replace h27 : ((c : Int) == 27) = false := by rw [beq_eq_false_iff_ne]; omega
    replace h28 : ((c : Int) == 28) = false := by rw [beq_eq_false_iff_ne]; omega
    go_enter Tryz.func103, Tryz.ntmps103
    go_wp2
    refine bodyPost_ret (v := .agg #[.string { data := #[] }, .int .i64 0, .int .i64 0, .int .u64 0, .bool false, .int .i64 0]) (by simp [results, Tryz.results103, go_sem]) rfl ⟨rfl, ?_⟩
    repeat (first | exact xrefl _ | refine xalloc ?_ _ | refine xset ?_ (by simp) _)
end Go.Proofs.YtijkdabmegbcjaaGreatDoor
