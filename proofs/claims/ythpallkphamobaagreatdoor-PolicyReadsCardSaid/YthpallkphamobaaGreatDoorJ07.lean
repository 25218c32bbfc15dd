/- Texts of this claim, merged; no condition. -/
import Derived.Laws.RangeAny
import Derived.Test.YthpallkphamobaaGreatDoorJ06
import Derived.Test.YthpallkphamobaaGreatDoorJ02
import Derived.Deep.MidRow
import Derived.Test.YthpallkphamobaaGreatDoorJ03
set_option linter.all false
namespace Go.Proofs.YthpallkphamobaaGreatDoor
open Go.RowKit

def parV (o : Option (BitVec 64)) : Value := match o with | some a => .tuple #[.int .u64 (iv64 a), .int .i64 0] | none => .tuple #[.int .u64 0, .int .i64 180]
def parR (o : Option (BitVec 64)) : Value := match o with | some a => .tuple #[.int .u64 (iv64 a), .bool true] | none => .tuple #[.int .u64 0, .bool false]
theorem str_eqt {s : ByteArray} {l : List UInt8} (h : s.data.toList = l) : (s.toList == l) = true := by rw [ByteArray.toList_eq, h]; exact beq_self_eq_true l
theorem str_eqf {s : ByteArray} {l : List UInt8} (h : ¬ s.data.toList = l) : (s.toList == l) = false := by rw [ByteArray.toList_eq, beq_eq_false_iff_ne]; exact h
theorem pRun_stop {L : List UInt8} {k : Nat} {st : PSt} (h : pRun (some (0, 0)) (L.take k) = st) (hk : k < L.length) (hn : pStep st L[k] = none) : pRun (some (0, 0)) L = none := by
  rw [show L = L.take k ++ (L[k] :: L.drop (k + 1)) by rw [List.getElem_cons_drop, List.take_append_drop], pRun_app, h]
  show pRun (pStep st L[k]) _ = none
  rw [hn, pRun_none]
theorem pRun_next {L : List UInt8} {k : Nat} {st : PSt} (h : pRun (some (0, 0)) (L.take k) = st) (hk : k < L.length) : pRun (some (0, 0)) (L.take (k + 1)) = pStep st L[k] := by
  rw [List.take_succ_eq_append_getElem hk, pRun_app, h]; rfl
theorem parseP_none {s : List UInt8} (hd : s ≠ [45]) (h : pRun (some (0, 0)) (s ++ [44]) = none) : parseP s = none := by
  unfold parseP; rw [if_neg hd, h]; rfl
theorem parseP_end {s : List UInt8} {a : BitVec 64} {n : Nat} (hd : s ≠ [45]) (h : pRun (some (0, 0)) (s ++ [44]) = some (a, n)) : parseP s = if textL a = s then some a else none := by
  unfold parseP; rw [if_neg hd, h]; rfl
theorem iter_below (w : World) (s : ByteArray) (k : Nat) : Below w.heap.size w (w.iter s k) := xalloc (xrefl w) _
set_option maxRecDepth 100000 in
set_option maxHeartbeats 1000000 in
theorem parse_any (s : ByteArray) (w : World) (hs : s.size ≤ 140737488355328) (hT : Tab w) : Calls Tryz.prog 99 #[.string s] w fun e w' => e = .returned (parV (parseP s.data.toList)) ∧ Below w.heap.size w w' := by
  by_cases hd : s.data.toList = [45]
  · have ht := str_eqt hd
    have hp : parseP s.data.toList = some 0 := by unfold parseP; rw [if_pos hd]
    rw [hp]
    replace hp := Lib.hid hp
    replace hd := Lib.hid hd
    go_enter Tryz.func99, Tryz.ntmps99
    go_wp2_with fail
    refine wp_scope_fwd 0 rfl ?_
    go_wp2
    rw [fwd_ret]
    go_ret2
    exact ⟨rfl, xrefl w⟩
  · have ht := str_eqf hd
    obtain ⟨S, hS⟩ : ∃ S : ByteArray, S = s ++ ⟨#[44]⟩ := ⟨_, rfl⟩
    have hSd : S.data.toList = s.data.toList ++ [44] := by rw [hS, ByteArray.data_append]; simp
    have hSz : S.data.toList.length = S.size := by simp
    have hSz2 : S.size = s.size + 1 := by have := hSz; rw [hSd] at this; simp at this; omega
    have hSle : S.size ≤ 140737488355329 := by omega
    replace hSz2 := Lib.hid hSz2
    have hno := Lib.hid (fun h => parseP_none hd (hSd ▸ h) : pRun (some (0, 0)) S.data.toList = none → _)
    have hyes := Lib.hid (fun (a : BitVec 64) (n : Nat) (h : pRun (some (0, 0)) S.data.toList = some (a, n)) => parseP_end hd (hSd ▸ h))
    generalize parseP s.data.toList = R at *
    replace hd := Lib.hid hd
    replace hSd := Lib.hid hSd
    replace hSz := Lib.hid hSz
    replace hS := Lib.hid hS
    have hS2 : s ++ ⟨#[44]⟩ = S := hS.out.symm
    replace hT := Lib.hid hT
    go_enter Tryz.func99, Tryz.ntmps99
    go_wp2_with fail
    refine wp_scope_fwd 0 rfl ?_
    go_wp2
    clear hS2
    go_loopw [2, 4] (fun av nv wr => ∃ (k n : Nat) (a : BitVec 64), k ≤ S.size ∧ n ≤ 640 ∧ wr = w.iter S k ∧ av = .int .u64 (iv64 a) ∧ nv = .int .i64 n ∧ Hid (pRun (some (0, 0)) (S.data.toList.take k) = some (a, n))) (fun _ _ wr => S.size - wr.iterPos w.heap.size)
    case atStart => exact ⟨0, 0, 0, by omega, by omega, rfl, rfl, rfl, Lib.hid rfl⟩
    case round =>
      obtain ⟨k, n, a, hk, hn, rfl, rfl, rfl, hst⟩ := hrel
      by_cases hlt : k < S.size
      · have hkl : k < S.data.toList.length := by rw [hSz.out]; exact hlt
        have hno2 := Lib.hid (fun h => hno.out (pRun_stop hst.out hkl h))
        have hnx2 := Lib.hid (pRun_next hst.out hkl)
        have hge : S.data.toList[k] = S[k] := rfl
        rw [hge] at hno2 hnx2
        clear hge
        by_cases hasc : (S[k]'hlt).toNat < 128
        · have hnx : ∀ ty, (Instr.next (.pointer (some ⟨w.heap.size, 0, none⟩)) true ty).run Tryz.prog (w.iter S k) = _ := fun ty => run_next_ascii w S k ty hlt hasc
          generalize S[k]'hlt = c at *
          obtain ⟨cn, hcn⟩ : ∃ cn, cn = c.toNat := ⟨_, rfl⟩
          rw [← hcn] at hasc hnx
          by_cases h44 : cn = 44
          · by_cases h63 : 63 < n
            · have hR : Hid (R = none) := Lib.hid (hno2.out (by simp only [pStep, Option.bind_some, ← hcn]; rw [if_pos h44, if_pos h63]))
              replace hcn := Lib.hid hcn
              subst h44
              go_wp2
              go_step3
              simp only [Exit.then, Exit.inBlock, fwd_goto]
              refine ⟨rfl, ?_⟩
              go_wp2
              rw [Exit.noGoto_ret]
              go_ret2
              exact ⟨by rw [hR.out]; rfl, iter_below w S _⟩
            · have hsn := Lib.hid (hnx2.out.trans (by simp only [pStep, Option.bind_some, ← hcn]; rw [if_pos h44, if_neg h63] : _ = some (or64 a (bit64 n), 0)))
              replace hcn := Lib.hid hcn
              subst h44
              have hn64 : (n : Int) < 64 := by omega
              go_wp2
              exact ⟨⟨k + 1, 0, _, by omega, by omega, rfl, rfl, rfl, hsn⟩, by simp; omega⟩
          · by_cases hdig : 48 ≤ cn ∧ cn ≤ 57 ∧ n < 64
            · obtain ⟨d1, d2, d3⟩ := hdig
              have hsn := Lib.hid (hnx2.out.trans (by simp only [pStep, Option.bind_some, ← hcn]; rw [if_neg h44, if_pos ⟨d1, d2, d3⟩] : _ = some (a, 10 * n + (cn - 48))))
              replace hcn := Lib.hid hcn
              have hne : ((cn : Int) == 44) = false := by rw [beq_eq_false_iff_ne]; omega
              go_wp2
              exact ⟨⟨k + 1, 10 * n + (cn - 48), _, by omega, by omega, rfl, rfl, by go_num, hsn⟩, by simp; omega⟩
            · have hR : Hid (R = none) := Lib.hid (hno2.out (by simp only [pStep, Option.bind_some, ← hcn]; rw [if_neg h44, if_neg hdig]))
              replace hcn := Lib.hid hcn
              have hne : ((cn : Int) == 44) = false := by rw [beq_eq_false_iff_ne]; omega
              go_wp2
              all_goals first
                | omega
                | (go_step3
                   simp only [Exit.then, Exit.inBlock, fwd_goto]
                   refine ⟨rfl, ?_⟩
                   go_wp2
                   rw [Exit.noGoto_ret]
                   go_ret2
                   exact ⟨by rw [hR.out]; rfl, iter_below w S _⟩)
        · have hnx : ∀ ty, (Instr.next (.pointer (some ⟨w.heap.size, 0, none⟩)) true ty).run Tryz.prog (w.iter S k) = _ := fun ty => run_next_any w S k ty hlt
          have hh := decode_high S k hlt (by omega)
          have hR : Hid (R = none) := Lib.hid (hno2.out (by simp only [pStep, Option.bind_some]; rw [if_neg (by omega), if_neg (by omega)]))
          generalize (Utf8.decode S k).1 = r at *
          generalize (Utf8.decode S k).2 = r2 at *
          obtain ⟨h1, -⟩ := hh
          have hne : ((r : Int) == 44) = false := by rw [beq_eq_false_iff_ne]; omega
          have hr2 : ¬ (r : Int) ≤ 57 := by omega
          have hr3 : (48 : Int) ≤ r := by omega
          go_wp2
          go_step3
          simp only [Exit.then, Exit.inBlock, fwd_goto]
          refine ⟨rfl, ?_⟩
          go_wp2
          rw [Exit.noGoto_ret]
          go_ret2
          exact ⟨by rw [hR.out]; rfl, iter_below w S _⟩
      · obtain rfl : k = S.size := by omega
        have hst2 := hst.out
        rw [List.take_of_length_le (by rw [hSz.out]; omega)] at hst2
        have hRv := hyes.out a n hst2
        have htx := fun W hW => text_any a W hW
        have hTi := hT.out.below (iter_below w S S.size)
        replace htx := Lib.hid (htx _ hTi)
        have hnx : ∀ ty, (Instr.next (.pointer (some ⟨w.heap.size, 0, none⟩)) true ty).run Tryz.prog (w.iter S S.size) = _ := fun ty => run_next_end w S S.size ty hlt
        clear hlt hk hn
        by_cases he : textL a = s.data.toList
        · rw [if_pos he] at hRv
          have ht2 := str_eqt he.symm
          generalize textL a = tx at *
          replace hRv := Lib.hid hRv
          replace he := Lib.hid he
          unfold strL at htx
          have ht3 : (tx == s.toList) = true := by rw [beq_iff_eq] at ht2 ⊢; exact ht2.symm
          replace hst2 := Lib.hid hst2
          go_wp2_with (go_at_call 104; refine htx.out.mono ?_; rintro e w1 ⟨rfl, hb1⟩)
          rw [fwd_ret]
          go_ret2
          exact ⟨by rw [hRv.out]; rfl, xtrans (iter_below w S _) hb1⟩
        · rw [if_neg he] at hRv
          have ht2 := str_eqf (fun h => he h.symm)
          generalize textL a = tx at *
          replace hRv := Lib.hid hRv
          replace he := Lib.hid he
          unfold strL at htx
          have ht3 : (tx == s.toList) = false := by rw [beq_eq_false_iff_ne] at ht2 ⊢; exact fun h => ht2 h.symm
          replace hst2 := Lib.hid hst2
          go_wp2_with (go_at_call 104; refine htx.out.mono ?_; rintro e w1 ⟨rfl, hb1⟩)
          go_step3
          go_wp2
          rw [fwd_ret]
          go_ret2
          exact ⟨by rw [hRv.out]; rfl, xtrans (iter_below w S _) hb1⟩

theorem rRun_stop {L : List UInt8} {k : Nat} {st : RSt} (h : rRun (some (0, 0, 0)) (L.take k) = st) (hk : k < L.length) (hn : rStep st L[k] = none) : rRun (some (0, 0, 0)) L = none := by
  rw [show L = L.take k ++ (L[k] :: L.drop (k + 1)) by rw [List.getElem_cons_drop, List.take_append_drop], rRun_app, h]
  show rRun (rStep st L[k]) _ = none
  rw [hn, rRun_none]
theorem rRun_next {L : List UInt8} {k : Nat} {st : RSt} (h : rRun (some (0, 0, 0)) (L.take k) = st) (hk : k < L.length) : rRun (some (0, 0, 0)) (L.take (k + 1)) = rStep st L[k] := by
  rw [List.take_succ_eq_append_getElem hk, rRun_app, h]; rfl
theorem parseR_none {s : List UInt8} (hd : s ≠ [45]) (h : rRun (some (0, 0, 0)) (s ++ [44]) = none) : parseR s = none := by
  unfold parseR; rw [if_neg hd, h]; rfl
theorem parseR_end {s : List UInt8} {a : BitVec 64} {n : Nat × Nat} (hd : s ≠ [45]) (h : rRun (some (0, 0, 0)) (s ++ [44]) = some (a, n)) : parseR s = if textL a = s then some a else none := by
  unfold parseR; rw [if_neg hd, h]; rfl
set_option maxRecDepth 100000 in
set_option maxHeartbeats 1000000 in
theorem refParse_any (s : ByteArray) (w : World) (hs : s.size ≤ 140737488355328) : Calls Tryz.prog 101 #[.string s] w fun e w' => e = .returned (parR (parseR s.data.toList)) ∧ Below w.heap.size w w' := by
  by_cases hd : s.data.toList = [45]
  · have ht := str_eqt hd
    have hp : parseR s.data.toList = some 0 := by unfold parseR; rw [if_pos hd]
    rw [hp]
    replace hp := Lib.hid hp
    replace hd := Lib.hid hd
    go_enter Tryz.func101, Tryz.ntmps101
    go_wp2
    go_ret2
    exact ⟨rfl, xrefl w⟩
  · have ht := str_eqf hd
    have hSz : s.data.toList.length = s.size := by simp
    have hno := Lib.hid (fun h => parseR_none hd h)
    have hyes := Lib.hid (fun (a : BitVec 64) (n : Nat × Nat) h => parseR_end (a := a) (n := n) hd h)
    generalize parseR s.data.toList = R at *
    replace hd := Lib.hid hd
    replace hSz := Lib.hid hSz
    go_enter Tryz.func101, Tryz.ntmps101
    go_wp2
    go_loopw [4, 5, 6, 7] (fun av nv mv kv wr => ∃ (k n m : Nat) (a : BitVec 64), k ≤ s.size + 1 ∧ m ≤ 2 ∧ n < 10 ^ m ∧ wr = w ∧ av = .int .u64 (iv64 a) ∧ nv = .int .i64 n ∧ mv = .int .i64 m ∧ kv = .int .i64 k ∧ Hid (rRun (some (0, 0, 0)) ((s.data.toList ++ [44]).take k) = some (a, n, m))) (fun _ _ _ kv _ => s.size + 1 - (intOf kv).toNat)
    case atStart => exact ⟨0, 0, 0, 0, by omega, by omega, by decide, rfl, rfl, rfl, rfl, rfl, Lib.hid rfl⟩
    case round =>
      obtain ⟨k, n, m, a, hk, hm, hnm, rfl, rfl, rfl, rfl, rfl, hst⟩ := hrel
      have hn100 : n < 100 := by
        rcases (by omega : m = 0 ∨ m = 1 ∨ m = 2) with rfl | rfl | rfl <;> simpa using (by omega)
      by_cases hlt : k < s.size + 1
      · have hkl : k < (s.data.toList ++ [44]).length := by simp; omega
        have hno2 := Lib.hid (fun h => hno.out (rRun_stop hst.out hkl h))
        have hnx2 := Lib.hid (rRun_next hst.out hkl)
        obtain ⟨c, hc⟩ : ∃ c, c = (s.data.toList ++ [44])[k] := ⟨_, rfl⟩
        rw [← hc] at hno2 hnx2
        obtain ⟨cn, hcn⟩ : ∃ cn, cn = c.toNat := ⟨_, rfl⟩
        by_cases hks : k < s.size
        · have hsk : (s[k]'hks).toNat = cn := by
            rw [hcn, hc, List.getElem_append_left (by rw [hSz.out]; exact hks)]; rfl
          have hlt2 : (k : Int) < s.size := by omega
          clear hc hkl
          have hc256 := (s[k]'hks).toNat_lt
          rw [hsk] at hc256
          by_cases h44 : cn = 44
          · have hne : ((cn : Int) != 44) = false := by rw [h44]; rfl
            by_cases hbad : m = 0 ∨ 63 < n
            · have hR : Hid (R = none) := Lib.hid (hno2.out (by simp only [rStep, Option.bind_some, ← hcn]; rw [if_pos h44, if_pos hbad]))
              replace hcn := Lib.hid hcn
              have hb1 : m = 0 ∨ (¬ m = 0 ∧ 63 < n) := by omega
              clear hbad
              rcases hb1 with rfl | ⟨hm0, h63⟩
              · go_wp2
                go_ret2
                exact ⟨by rw [hR.out]; rfl, xrefl _⟩
              · have hm1 : ((m : Int) == 0) = false := by rw [beq_eq_false_iff_ne]; omega
                go_wp2
                go_ret2
                exact ⟨by rw [hR.out]; rfl, xrefl _⟩
            · have hsn := Lib.hid (hnx2.out.trans (by simp only [rStep, Option.bind_some, ← hcn]; rw [if_pos h44, if_neg hbad] : _ = some (or64 a (bit64 n), 0, 0)))
              replace hcn := Lib.hid hcn
              have hm1 : ((m : Int) == 0) = false := by rw [beq_eq_false_iff_ne]; omega
              have hn64 : (n : Int) < 64 := by omega
              have hwr : IntKind.u64.wrap (n : Int) = (n : Int) := by rw [IntKind.wrap_u64]; omega
              clear hbad
              go_wp2
              exact ⟨⟨k + 1, 0, 0, _, by omega, by omega, by decide, trivial, rfl, rfl, rfl, rfl, hsn⟩, by simp [intOf]; omega⟩
          · have hne : ((cn : Int) != 44) = true := by rw [bne_iff_ne]; omega
            by_cases hdig : cn < 48 ∨ 57 < cn ∨ m = 2
            · have hR : Hid (R = none) := Lib.hid (hno2.out (by simp only [rStep, Option.bind_some, ← hcn]; rw [if_neg h44, if_pos hdig]))
              replace hcn := Lib.hid hcn
              have hb1 : cn < 48 ∨ (¬ cn < 48 ∧ 57 < cn) ∨ (¬ cn < 48 ∧ ¬ 57 < cn ∧ m = 2) := by omega
              clear hdig
              rcases hb1 with h1 | ⟨h1, h2⟩ | ⟨h1, h2, rfl⟩
              all_goals
                go_wp2
                go_ret2
                exact ⟨by rw [hR.out]; rfl, xrefl _⟩
            · have hsn := Lib.hid (hnx2.out.trans (by simp only [rStep, Option.bind_some, ← hcn]; rw [if_neg h44, if_neg hdig] : _ = some (a, 10 * n + (cn - 48), m + 1)))
              replace hcn := Lib.hid hcn
              have h1 : ¬ cn < 48 := by omega
              have h2 : ¬ 57 < cn := by omega
              have h3 : ((m : Int) == 2) = false := by rw [beq_eq_false_iff_ne]; omega
              have hn10 : 10 * n + (cn - 48) < 10 ^ (m + 1) := by
                rw [Nat.pow_succ]; omega
              have h4 : m + 1 ≤ 2 := by omega
              clear hdig hnm
              go_wp2
              exact ⟨⟨k + 1, 10 * n + (cn - 48), m + 1, _, by omega, by omega, hn10, trivial, rfl, by go_num, by go_num, rfl, hsn⟩, by simp [intOf]; omega⟩
        · obtain rfl : k = s.size := by omega
          have h44 : cn = 44 := by
            rw [hcn, hc, List.getElem_append_right (by rw [hSz.out]; omega)]
            simp [hSz.out]
          clear hc hkl hks
          by_cases hbad : m = 0 ∨ 63 < n
          · have hR : Hid (R = none) := Lib.hid (hno2.out (by simp only [rStep, Option.bind_some, ← hcn]; rw [if_pos h44, if_pos hbad]))
            replace hcn := Lib.hid hcn
            have hb1 : m = 0 ∨ (¬ m = 0 ∧ 63 < n) := by omega
            clear hbad
            rcases hb1 with rfl | ⟨hm0, h63⟩
            · go_wp2
              go_ret2
              exact ⟨by rw [hR.out]; rfl, xrefl _⟩
            · have hm1 : ((m : Int) == 0) = false := by rw [beq_eq_false_iff_ne]; omega
              go_wp2
              go_ret2
              exact ⟨by rw [hR.out]; rfl, xrefl _⟩
          · have hsn := Lib.hid (hnx2.out.trans (by simp only [rStep, Option.bind_some, ← hcn]; rw [if_pos h44, if_neg hbad] : _ = some (or64 a (bit64 n), 0, 0)))
            replace hcn := Lib.hid hcn
            have hm1 : ((m : Int) == 0) = false := by rw [beq_eq_false_iff_ne]; omega
            have hn64 : (n : Int) < 64 := by omega
            have hwr : IntKind.u64.wrap (n : Int) = (n : Int) := by rw [IntKind.wrap_u64]; omega
            clear hbad
            go_wp2
            exact ⟨⟨s.size + 1, 0, 0, _, by omega, by omega, by decide, trivial, rfl, rfl, rfl, rfl, hsn⟩, by simp [intOf]⟩
      · obtain rfl : k = s.size + 1 := by omega
        have hst2 := hst.out
        rw [List.take_of_length_le (by simp)] at hst2
        have hRv := hyes.out a (n, m) hst2
        have htx := Lib.hid (refText_any a)
        clear hlt hk
        by_cases he : textL a = s.data.toList
        · rw [if_pos he] at hRv
          have ht2 := str_eqt he.symm
          generalize textL a = tx at *
          replace hRv := Lib.hid hRv
          replace he := Lib.hid he
          unfold strL at htx
          have ht3 : (tx == s.toList) = true := by rw [beq_iff_eq] at ht2 ⊢; exact ht2.symm
          replace hst2 := Lib.hid hst2
          go_wp2_with (go_at_call 65; refine (htx.out _).mono ?_; rintro e w1 ⟨rfl, hb1⟩)
          go_ret2
          exact ⟨by rw [hRv.out]; rfl, hb1⟩
        · rw [if_neg he] at hRv
          have ht2 := str_eqf (fun h => he h.symm)
          generalize textL a = tx at *
          replace hRv := Lib.hid hRv
          replace he := Lib.hid he
          unfold strL at htx
          have ht3 : (tx == s.toList) = false := by rw [beq_eq_false_iff_ne] at ht2 ⊢; exact fun h => ht2 h.symm
          replace hst2 := Lib.hid hst2
          go_wp2_with (go_at_call 65; refine (htx.out _).mono ?_; rintro e w1 ⟨rfl, hb1⟩)
          go_ret2
          exact ⟨by rw [hRv.out]; rfl, hb1⟩
end Go.Proofs.YthpallkphamobaaGreatDoor
namespace Go.Proofs.YthpallkphamobaaGreatDoor
open Go.RowKit Go.Shelf

/-- An address. -/
structure Adr (a : List Nat) : Prop where
  len : a.length = 20
  ok : ∀ b ∈ a, b < 256
theorem Adr.get {a : List Nat} (h : Adr a) {i : Nat} (hi : i < 20) : ∃ x : Nat, a[i]? = some x ∧ x < 256 ∧ (adrC a)[i]? = some (.int .u8 (x : Int)) := by
  have hi2 : i < a.length := by rw [h.len]; exact hi
  exact ⟨a[i], List.getElem?_eq_getElem hi2, h.ok _ (List.getElem_mem hi2), by simp [adrC, natI, hi2]⟩
theorem blk_cell {W : World} {b : Nat} {T : TypeId} {vs : List Value} (h : BlkG W b T vs) {i : Nat} {v : Value} (hv : vs[i]? = some v) : W.cell? ⟨b, i, none⟩ = some v := by
  obtain ⟨hl, rfl⟩ := List.getElem?_eq_some_iff.1 hv
  exact h.cell i hl
theorem ordA_drop {a b : List Nat} {i x y : Nat} (hx : a[i]? = some x) (hy : b[i]? = some y) : ordA (a.drop i) (b.drop i) = if x < y then -1 else if y < x then 1 else ordA (a.drop (i + 1)) (b.drop (i + 1)) := by
  obtain ⟨h1, rfl⟩ := List.getElem?_eq_some_iff.1 hx
  obtain ⟨h2, rfl⟩ := List.getElem?_eq_some_iff.1 hy
  rw [List.drop_eq_getElem_cons h1, List.drop_eq_getElem_cons h2, ordA]
theorem below_drewN {w : World} (k : Nat) : Below w.heap.size w (w.drewN k) := xdrewN (xrefl w) k
set_option maxRecDepth 100000 in
set_option maxHeartbeats 4000000 in
theorem refOrder_any (a b : List Nat) (w : World) (ha : Adr a) (hb : Adr b) :
    Calls Tryz.prog 22 #[adrV a, adrV b] w fun e w' => e = .returned (.int .i64 (ordA a b)) ∧ Below w.heap.size w w' := by
  have hbe : Below w.heap.size w ((w.alloc (.cells (adrC a).toArray 29)).alloc (.cells (adrC b).toArray 29)) := xalloc (xalloc (xrefl w) _) _
  have hA : BlkG ((w.alloc (.cells (adrC a).toArray 29)).alloc (.cells (adrC b).toArray 29)) w.heap.size 29 (adrC a) := (BlkG.new w _ _).below (xalloc (xrefl _) _)
  have hB : BlkG ((w.alloc (.cells (adrC a).toArray 29)).alloc (.cells (adrC b).toArray 29)) (w.heap.size + 1) 29 (adrC b) := by
    have := BlkG.new (w.alloc (.cells (adrC a).toArray 29)) 29 (adrC b)
    rwa [World.size_alloc] at this
  have hg := Lib.hid fun i (hi : i < 20) => ha.get hi
  have hg2 := Lib.hid fun i (hi : i < 20) => hb.get hi
  replace hbe := Lib.hid hbe
  have hst : Hid (ordA a b = ordA (a.drop 0) (b.drop 0)) := Lib.hid rfl
  have hend : Hid (ordA (a.drop 20) (b.drop 20) = 0) := Lib.hid (by rw [List.drop_eq_nil_of_le (by rw [ha.len]; exact Nat.le_refl _)]; rfl)
  have hstep := Lib.hid fun i x y (h1 : a[i]? = some x) (h2 : b[i]? = some y) => ordA_drop h1 h2
  unfold adrV
  generalize adrC a = A at *
  generalize adrC b = B at *
  clear ha hb
  go_enter Tryz.func22, Tryz.ntmps22
  go_wp2
  generalize (w.alloc (.cells A.toArray 29)).alloc (.cells B.toArray 29) = w2 at *
  replace hA := Lib.hid hA
  replace hB := Lib.hid hB
  go_loopw [5] (fun iv wr => ∃ i m : Nat, iv = .int .i64 i ∧ i ≤ 20 ∧ Hid (wr = w2.drewN m) ∧ Hid (ordA a b = ordA (a.drop i) (b.drop i))) (fun iv _ => 20 - (intOf iv).toNat)
  case atStart => exact ⟨0, 0, rfl, by omega, Lib.hid rfl, hst⟩
  case round =>
    clear hst
    obtain ⟨i, m, rfl, hi, hw, hs⟩ := hrel
    by_cases hlt : i < 20
    · have hltI : (i : Int) < 20 := by omega
      obtain ⟨x, hx, hx2, hxc⟩ := hg.out i hlt
      obtain ⟨y, hy, hy2, hyc⟩ := hg2.out i hlt
      have hq := hstep.out i x y hx hy
      have c1 := cbel (below_drewN m) (blk_cell hA.out hxc)
      have c2 := cbel (below_drewN m) (blk_cell hB.out hyc)
      rw [← hw.out] at c1 c2
      have hwi : IntKind.i64.wrap ((i : Int) + 1) = (i : Int) + 1 := by simp [IntKind.wrap, IntKind.bits, IntKind.signed]; omega
      clear hx hy hxc hyc
      by_cases h1 : x < y
      · have h1I : (x : Int) < y := by omega
        rw [if_pos h1] at hq
        replace hs := Lib.hid (hs.out.trans hq)
        clear hq
        go_wp2
        go_region
        go_wp2
        go_ret
        exact ⟨by rw [hs.out]; rfl, by rw [hw.out]; exact xtrans hbe.out (xdrew (below_drewN m))⟩
      · have h1I : ¬ (x : Int) < y := by omega
        rw [if_neg h1] at hq
        have c3 := cbel (below_drewN 1) c1
        have c4 := cbel (below_drewN 1) c2
        by_cases h2 : y < x
        · have h2I : (y : Int) < x := by omega
          rw [if_pos h2] at hq
          replace hs := Lib.hid (hs.out.trans hq)
          clear hq h1 h2
          go_wp2
          go_region
          go_wp2
          go_region
          go_wp2
          go_ret
          exact ⟨by rw [hs.out]; rfl, by rw [hw.out]; exact xtrans hbe.out (xdrew (xdrew (below_drewN m)))⟩
        · have h2I : ¬ (y : Int) < x := by omega
          rw [if_neg h2] at hq
          replace hs := Lib.hid (hs.out.trans hq)
          clear hq h1 h2
          go_wp2
          go_region
          go_wp2
          go_region
          go_wp2
          go_roundw
          case rel => exact ⟨i + 1, m + 2, by first | rfl | simp, by omega, Lib.hid (by rw [hw.out]; rfl), hs⟩
          case measure => simp [intOf]; omega
    · obtain rfl : i = 20 := by omega
      replace hs := Lib.hid (hs.out.trans hend.out)
      clear hlt
      go_wp2
      go_ret
      exact ⟨by rw [hs.out]; rfl, by rw [hw.out]; exact xtrans hbe.out (below_drewN m)⟩
end Go.Proofs.YthpallkphamobaaGreatDoor
namespace Go.Proofs.YthpallkphamobaaGreatDoor
open Go.RowKit

theorem run_load_midV {P : Program} {o : Oper} {ac : Act} {w : World} (ty : TypeId) (x : Operand) (ho : o.op = .load ty x) (b f : Nat) (hx : ac.eval x = .pointer (some ⟨b, f, none⟩)) (vs : List Value) (d : TypeDesc)
    (hr : w.rangeAt b f vs) (hu : P.underlying ty = some d) (hd : (match d with | .struct _ | .array _ _ => true | _ => false) = true) (hi : (P.info? ty).map (·.size) = some vs.length) : (execOp ac.eval o).run P w = .ok (.value (.agg vs.toArray)) w := by
  have e : (loadVar ty ⟨b, f, none⟩).run P w = .ok (.agg vs.toArray) w := by
    cases d <;> first | (simp at hd; done) | exact run_loadVar_mid w b f ty _ _ hr hu rfl (by simpa using hi)
  unfold execOp
  simp only [ho, hx, Instr.loadAt, Instr.sureAddr, Sem.run_bind, Sem.run_pure, Result.andThen_ok, e]
end Go.Proofs.YthpallkphamobaaGreatDoor
