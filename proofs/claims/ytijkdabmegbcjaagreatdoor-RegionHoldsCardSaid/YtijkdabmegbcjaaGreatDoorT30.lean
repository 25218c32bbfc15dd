/- Texts of this claim, merged; no condition. -/
import Derived.Test.YtijkdabmegbcjaaGreatDoorT29
import Derived.Test.YtijkdabmegbcjaaGreatDoorT14
import Derived.Test.YtijkdabmegbcjaaGreatDoorT05
import Derived.Test.YtijkdabmegbcjaaGreatDoorTA
set_option linter.all false
namespace Go.Proofs.YtijkdabmegbcjaaGreatDoor
section
open Go.RowKit Go.Shelf
def foldR : List StN → StN → Option StN
  | [], s => some s
  | x :: r, s => if s.ht = x.ht then foldR r (orS s x) else none
def foldO : List StN → Option StN
  | [] => none
  | s :: r => foldR r s
structure StsAt (w : World) (a : Option Addr) (c : Nat) (l : List StN) : Prop where
  get : ∀ i (hi : i < l.length), ∃ b o, a = some ⟨b, o, none⟩ ∧ w.rangeAt b (o + i * 5) (stC l[i])
  cap : l.length ≤ c
theorem StsAt.below {w w' : World} {a : Option Addr} {c : Nat} {l : List StN} (h : StsAt w a c l) (hb : Below w.heap.size w w') : StsAt w' a c l := ⟨fun i hi => by
  obtain ⟨b, o, e, hr⟩ := h.get i hi
  exact ⟨b, o, e, rangeAt_below hr hb⟩, h.cap⟩
theorem run_slice_one {P : Program} (T e : TypeId) (b o n c sz : Nat) (w : World) (hT : P.underlying T = some (.slice e)) (hs : (P.info? e).map (·.size) = some sz) (hk : 1 ≤ n) (hc : n ≤ c) :
    (Instr.slice T (.slice (some ⟨b, o, none⟩) n c) (some (.int .i64 1)) none none).run P w = .ok (.slice (some (if c = 1 then ⟨b, o, none⟩ else ⟨b, o + sz, none⟩)) (n - 1) (c - 1)) w := by
  obtain ⟨i, hi, hs1⟩ := Option.map_eq_some_iff.1 hs
  have hb' : ∀ code, (Instr.sliceBound (.int .i64 1) n code).run P w = .ok 1 w := fun code => by
    have h1 : (1 : Int) ≤ (n : Int) := by omega
    simp [Instr.sliceBound, asIntOf, Sem.run_bind, h1]
  simp only [Instr.slice, Instr.sliceBounds, Sem.run_bind, run_underlying hT, Result.andThen_ok, Option.isSome_none, Bool.false_eq_true, if_false, if_true, Sem.run_pure]
  simp only [hb', Result.andThen_ok, Sem.run_pure]
  simp [sizeOf, typeInfo, hi, hs1, Sem.run_bind]
  split <;> simp [Addr.add]
theorem foldR_step {s x : StN} {r : List StN} {k : Nat} (hk : k < r.length) (hx : r[k] = x) : foldR (r.drop k) s = if s.ht = x.ht then foldR (r.drop (k + 1)) (orS s x) else none := by
  rw [List.drop_eq_getElem_cons hk, hx]; rfl
set_option maxRecDepth 100000 in
set_option maxHeartbeats 2000000 in
theorem folded_any (l : List StN) (a : Option Addr) (c : Nat) (w : World) (h : StsAt w a c l) (hl : l.length ≤ 1000) :
    Calls Tryz.prog 128 #[.func (.func 129) #[] #[], .slice a l.length c] w fun e w' => StR (foldO l) e ∧ Below w.heap.size w w' := by
  have hb0 : Hid (Below w.heap.size w (w.alloc (.cells #[.int .u64 0, .int .u64 0, .int .i64 0, .int .i64 0, .int .i64 0] 142))) := qh (xalloc (xrefl w) _)
  have hR0 : Hid (BlkG (w.alloc (.cells #[.int .u64 0, .int .u64 0, .int .i64 0, .int .i64 0, .int .i64 0] 142)) w.heap.size 142 (stC zeroS)) := qh (BlkG.new w _ _)
  have hu := Tryz.underlying142
  cases l with
  | nil =>
    clear h hl
    go_enter Tryz.func128, Tryz.ntmps128
    go_wp2_with (go_at_call 100; refine (must_false _).mono ?_; rintro e w' ⟨rfl, rfl⟩)
    exact ⟨rfl, rfl, hb0.out⟩
  | cons s r =>
    have hcap := h.cap
    obtain ⟨b, o, rfl, hr0⟩ := h.get 0 (by simp)
    have hr0' := rangeAt_below hr0 hb0.out
    rw [Nat.zero_mul, Nat.add_zero] at hr0'
    simp only [List.getElem_cons_zero] at hr0'
    have hr : Hid (∀ W, Below w.heap.size w W → ∀ i (hi : i < r.length), W.rangeAt b (o + (i + 1) * 5) (stC r[i])) := qh fun W hW i hi => by
      obtain ⟨b', o', e, hr⟩ := h.get (i + 1) (by rw [List.length_cons]; omega)
      cases e
      exact rangeAt_below hr hW
    rw [List.length_cons] at hl hcap ⊢
    have hsl := fun W => run_slice_one (P := Tryz.prog) 175 142 b o (r.length + 1) c 5 W Tryz.underlying175 (by kernel_rfl) (by omega) hcap
    have epos : ((0 : Int) < ((r.length + 1 : Nat) : Int)) := by omega
    obtain ⟨sa, hsa⟩ : ∃ sa : Addr, (if c = 1 then (⟨b, o, none⟩ : Addr) else ⟨b, o + 5, none⟩) = sa := ⟨_, rfl⟩
    have hsa2 : Hid (r.length ≠ 0 → sa = ⟨b, o + 5, none⟩) := qh fun h0 => by rw [← hsa, if_neg (by omega)]
    rw [hsa, Nat.add_sub_cancel] at hsl
    have hf0 : foldO (s :: r) = foldR (r.drop 0) s := rfl
    rw [hf0]
    have hstep := qh fun k hk x hx s => foldR_step (s := s) (x := x) (r := r) (k := k) hk hx
    have hend : Hid (∀ s, foldR (r.drop r.length) s = some s) := qh fun s => by rw [List.drop_length]; rfl
    obtain ⟨F, hF⟩ : ∃ F, F = foldR (r.drop 0) s := ⟨_, rfl⟩
    rw [← hF]
    replace hF := qh hF
    clear h hf0 hsa hr0
    obtain ⟨m, hm⟩ : ∃ m, r.length + 1 = m := ⟨_, rfl⟩
    simp only [hm] at hsl epos ⊢
    have eposN : 0 < m := by omega
    replace hm := qh hm
    go_enter Tryz.func128, Tryz.ntmps128
    go_wp2_with (first
      | (go_at_call 100; refine (must_true _).mono ?_; rintro e w' ⟨rfl, rfl⟩)
      | (refine wpList_load_mid rfl 142 _ rfl b o rfl (stC s) _ hr0' hu rfl (by kernel_rfl) ?_)
      | (refine wpList_store_blkG rfl 142 _ _ rfl (w.heap.size + 1) rfl 142 [.int .u64 0, .int .u64 0, .int .i64 0, .int .i64 0, .int .i64 0] (stC s) (by have := BlkG.new (w.alloc (.cells #[.int .u64 0, .int .u64 0, .int .i64 0, .int .i64 0, .int .i64 0] 142)) 142 [.int .u64 0, .int .u64 0, .int .i64 0, .int .i64 0, .int .i64 0]; rw [World.size_alloc] at this; exact this) rfl rfl (by kernel_rfl) rfl ?_; intro w2 hA2 ho2; have hb2 := qh (ho2.below (xalloc hb0.out _) (by simp; omega) (by rintro k rfl; omega)); have hR2 := qh ((hR0.out.alloc _).only ho2 (by omega)); replace hA2 := qh hA2; clear ho2))
    go_loopw [18] (fun iv wx => ∃ (k : Nat) (acc : StN), iv = .int .i64 k ∧ k ≤ r.length ∧ Hid (F = foldR (r.drop k) acc) ∧ Hid (BlkG wx (w.heap.size + 1) 142 (stC acc)) ∧ Hid (BlkG wx w.heap.size 142 (stC zeroS)) ∧ Hid (Below w.heap.size w wx)) (fun iv _ => r.length - (intOf iv).toNat)
    case atStart => exact ⟨0, s, rfl, by omega, hF, hA2, hR2, hb2⟩
    case round =>
      clear hA2 hR2 hb2 hF
      obtain ⟨k, acc, rfl, hk, hF, hA, hR, hb⟩ := hrel
      by_cases hlt : k < r.length
      · have hltI : (k : Int) < r.length := by omega
        have hrk := hr.out wr hb.out k hlt
        have hst := hstep.out k hlt _ rfl acc
        have esa := hsa2.out (by omega)
        subst esa
        rw [show o + (k + 1) * 5 = o + 5 + k * 5 by omega] at hrk
        generalize r[k] = x at *
        have hwl := hA.out.lt
        have hAw := qh (hA.out.alloc (.cells #[.int .u64 0, .int .u64 0, .int .i64 0, .int .i64 0, .int .i64 0] 142))
        replace hrk := qh hrk
        by_cases hh : acc.ht = x.ht
        · rw [if_pos hh] at hst
          replace hst := qh (hF.out.trans hst)
          have hor := qh fun W => or_same acc x W hh
          unfold stV at hor
          clear hF hh
          go_wp2_with (first
            | (refine wpList_load_mid rfl 142 _ rfl b (o + 5 + k * 5) rfl (stC x) _ hrk.out hu rfl (by kernel_rfl) ?_)
            | (refine wpList_store_blkG rfl 142 _ _ rfl wr.heap.size rfl 142 [.int .u64 0, .int .u64 0, .int .i64 0, .int .i64 0, .int .i64 0] (stC x) (BlkG.new wr _ _) rfl rfl (by kernel_rfl) rfl ?_; intro w3 hX3 ho3; have hb3 := ho3.below (xalloc (xrefl wr) _) (xalloc (xrefl wr) _).size (by rintro k rfl; exact Nat.le_refl _); have hA3 := qh (hA.out.below hb3); have hR3 := qh (hR.out.below hb3); replace hb3 := qh (xtrans hb.out hb3); replace hX3 := qh hX3; clear ho3)
            | (refine wpList_load_blkG rfl 142 _ rfl (w.heap.size + 1) rfl 142 (stC acc) _ hA3.out hu rfl (by kernel_rfl) ?_)
            | (refine wpList_load_blkG rfl 142 _ rfl wr.heap.size rfl 142 (stC x) _ hX3.out hu rfl (by kernel_rfl) ?_)
            | (go_at_call 129; refine (hor.out _).mono ?_; rintro e w4 ⟨rfl, hb4⟩; have hA4 := qh (hA3.out.below hb4); have hR4 := qh (hR3.out.below hb4); replace hb4 := qh (xtrans hb3.out hb4))
            | (refine wpList_store_blkG rfl 142 _ _ rfl (w.heap.size + 1) rfl 142 (stC acc) (stC (orS acc x)) hA4.out rfl rfl (by kernel_rfl) rfl ?_; intro w5 hA5 ho5; have hR5 := qh (hR4.out.only ho5 (by omega)); have hb5 := qh (ho5.below hb4.out hb4.out.size (by rintro k rfl; omega)); replace hA5 := qh hA5; clear ho5))
          exact ⟨⟨k + 1, orS acc x, by go_num, by omega, hst, hA5, hR5, hb5⟩, by simp [intOf]; omega⟩
        · rw [if_neg hh] at hst
          have hFn : F = none := hF.out.trans hst
          have hor := qh fun W => or_not acc x W hh
          unfold stV at hor
          subst hFn
          clear hF hh hst
          go_wp2_with (first
            | (refine wpList_load_mid rfl 142 _ rfl b (o + 5 + k * 5) rfl (stC x) _ hrk.out hu rfl (by kernel_rfl) ?_)
            | (refine wpList_store_blkG rfl 142 _ _ rfl wr.heap.size rfl 142 [.int .u64 0, .int .u64 0, .int .i64 0, .int .i64 0, .int .i64 0] (stC x) (BlkG.new wr _ _) rfl rfl (by kernel_rfl) rfl ?_; intro w3 hX3 ho3; have hb3 := ho3.below (xalloc (xrefl wr) _) (xalloc (xrefl wr) _).size (by rintro k rfl; exact Nat.le_refl _); have hA3 := qh (hA.out.below hb3); replace hb3 := qh (xtrans hb.out hb3); replace hX3 := qh hX3; clear ho3)
            | (refine wpList_load_blkG rfl 142 _ rfl (w.heap.size + 1) rfl 142 (stC acc) _ hA3.out hu rfl (by kernel_rfl) ?_)
            | (refine wpList_load_blkG rfl 142 _ rfl wr.heap.size rfl 142 (stC x) _ hX3.out hu rfl (by kernel_rfl) ?_)
            | (go_at_call 129; refine (hor.out _).mono ?_; rintro e w4 ⟨rfl, hb4⟩; replace hb4 := qh (xtrans hb3.out hb4)))
          exact ⟨rfl, rfl, hb4.out⟩
      · obtain rfl : k = r.length := by omega
        have hFe := hF.out.trans (hend.out acc)
        subst hFe
        clear hlt hF
        go_wp2_with (first
          | (refine wpList_load_blkG rfl 142 _ rfl (w.heap.size + 1) rfl 142 (stC acc) _ hA.out hu rfl (by kernel_rfl) ?_)
          | (refine wpList_store_blkG rfl 142 _ _ rfl w.heap.size rfl 142 (stC zeroS) (stC acc) hR.out rfl rfl (by kernel_rfl) rfl ?_; intro w5 hA5 ho5; have hb5 := qh (ho5.below hb.out hb.out.size (by rintro k rfl; omega)); replace hA5 := qh hA5; clear ho5))
        exact bodyPost_ret (results_blkG rfl _ _ w.heap.size 142 _ _ rfl hA5.out hu rfl (by kernel_rfl)) rfl ⟨rfl, hb5.out⟩
end
section
open Go.RowKit
def treeTB (ops : Array Oper) (n : Nat) : Bool := (List.range ops.size).all fun t => decide (t ≤ n) || (List.range t).any fun j => decide (n ≤ j) && Region.waitsFor .any ops t j
theorem tail_waitsT {ops : Array Oper} {n : Nat} {listed : Array Bool} (hs : Region.sinkB .any ops n = true) (hc : treeTB ops n = true) (hn : n < ops.size) (inv : HeadInv .any ops n listed) :
    ∀ (d i : Nat), n - i = d → i < n → listed.getD i true = false → ∀ t, n ≤ t → t ∉ Region.ready .any ops listed := by
  intro d
  induction d using Nat.strongRecOn with
  | _ d ih =>
    intro i hd hi hun t ht hr
    obtain ⟨_, ot, hot, hall⟩ := mem_ready.1 hr
    have htlt : t < ops.size := (Array.getElem?_eq_some_iff.1 hot).1
    by_cases htn : t = n
    · subst htn
      have h1 := List.all_eq_true.1 hs i (List.mem_range.2 hi)
      obtain ⟨j, hj, hj2⟩ := List.any_eq_true.1 h1
      simp only [Bool.and_eq_true, decide_eq_true_eq] at hj2
      obtain ⟨oj, hoj, e, he, hb, hon⟩ := Region.waitsFor_spec hj2.2
      have hjle : j ≤ t := by have := List.mem_range.1 hj; omega
      by_cases hjt : j = t
      · subst hjt
        have : oj = ot := Option.some.inj (hoj.symm.trans hot)
        subst this
        have h2 := hall e he hb
        rw [hon, getD_both hun] at h2
        cases h2
      · cases hl : listed.getD j false with
        | true =>
          have h2 := inv.closed j oj hoj hl e he hb
          rw [hon, getD_both hun] at h2
          cases h2
        | false =>
          have hjs : j < listed.size := by rw [inv.size]; omega
          exact ih (t - j) (by omega) j rfl (by omega) (getD_in hjs hl) t (Nat.le_refl _) hr
    · have h1 := List.all_eq_true.1 hc t (List.mem_range.2 htlt)
      simp only [Bool.or_eq_true, decide_eq_true_eq] at h1
      rcases h1 with h1 | h1
      · omega
      · obtain ⟨j, hj, hj2⟩ := List.any_eq_true.1 h1
        simp only [Bool.and_eq_true, decide_eq_true_eq] at hj2
        obtain ⟨o', ho', e, he, hb, hon⟩ := Region.waitsFor_spec hj2.2
        have : o' = ot := Option.some.inj (ho'.symm.trans hot)
        subst this
        have h2 := hall e he hb
        rw [hon, getD_both (inv.tail j hj2.1 (by have := List.mem_range.1 hj; omega))] at h2
        cases h2
def growTB (l : List Oper) (n : Nat) : Bool :=
  Region.noSelect l.toArray && decide (n ≤ l.length) && (decide (n = l.length) || Region.sinkB .any l.toArray n && treeTB l.toArray n) && looksB (l.take n) l.toArray && apartB (l.take n) && backB l.toArray
def listedN (m n : Nat) : Array Bool := ((List.range m).map fun i => decide (i < n)).toArray
theorem wpAny_end {P : Program} {ops : Array Oper} {Q : Exit → Act → World → Prop} {listed : Array Bool} {a : Act} {w : World} (hr : Region.ready .any ops listed = []) (h : Q .normal a w) : wpAny P .any ops Q 0 listed a w := ⟨hr, h⟩
end
end Go.Proofs.YtijkdabmegbcjaaGreatDoor
