/- Texts of this claim, merged; no condition. -/
import Derived.LaidMore
import Derived.Test.YtijkdabmegbcjaaGreatDoorT45
import Derived.Test.YtijkdabmegbcjaaGreatDoorT26
import Derived.Test.YtijkdabmegbcjaaGreatDoorT12
import Derived.Test.YtijkdabmegbcjaaGreatDoorT33
import Derived.Test.YtijkdabmegbcjaaGreatDoorT43
import Derived.Test.YtijkdabmegbcjaaGreatDoorT40
import Derived.Test.YtijkdabmegbcjaaGreatDoorT15
import Derived.Test.YtijkdabmegbcjaaGreatDoorT05
import Derived.Test.YtijkdabmegbcjaaGreatDoorT30
import Derived.Test.YtijkdabmegbcjaaGreatDoorT22
import Derived.Test.YtijkdabmegbcjaaGreatDoorTA
set_option linter.all false
namespace Go.Proofs.YtijkdabmegbcjaaGreatDoor
section
open Go.RowKit Go.Shelf
def TabF (_ : World) : Prop := True
theorem tab_of_laid {X : Prop} {W : World} (_ : X) : TabF W := trivial
theorem code_of {w : World} {a : Option Addr} {c : Nat} {zs : List Int} (hl : zs.length ≤ c ∧ c ≤ 9223372036854775807) (hr : RowAt .u8 w a zs) (ha : a = none → c = 0) (hw : ∀ z ∈ zs, (Lit.int .u8 z).wf = true) (h2 : zs.length ≤ 200) :
    ∃ cs, zs = natI cs ∧ CodeAt w a c cs := by
  have hz : ∀ z ∈ zs, 0 ≤ z ∧ z ≤ 255 := fun z h => by
    have := hw z h
    simp [Lit.wf, IntKind.min, IntKind.max, IntKind.signed, IntKind.bits] at this
    exact ⟨by omega, by omega⟩
  have e : zs = natI (zs.map Int.toNat) := by
    apply List.ext_getElem (by simp [natI])
    intro i h1 h2
    have := hz zs[i] (List.getElem_mem h1)
    simp [natI]
    omega
  exact ⟨zs.map Int.toNat, e, by rw [← e]; exact hr, ha, by rw [List.length_map]; exact h2, fun x hx => by
    obtain ⟨z, h, rfl⟩ := List.mem_map.1 hx
    have := hz z h
    omega, by rw [List.length_map]; exact hl⟩
end
section
theorem smallF_le (a b : Int) : smallF a b ≤ a ∧ smallF a b ≤ b ∧ (smallF a b = a ∨ smallF a b = b) := by
  unfold smallF; split <;> omega
theorem bigF_ge (a b : Int) : a ≤ bigF a b ∧ b ≤ bigF a b ∧ (bigF a b = a ∨ bigF a b = b) := by
  unfold bigF; split <;> omega
theorem then_assoc (a b c : StN) : thenS a (thenS b c) = thenS (thenS a b) c := by
  simp only [thenS, StN.mk.injEq]
  have e1 := smallF_le b.lo (b.ht + c.lo)
  have e2 := smallF_le a.lo (a.ht + smallF b.lo (b.ht + c.lo))
  have e3 := smallF_le a.lo (a.ht + b.lo)
  have e4 := smallF_le (smallF a.lo (a.ht + b.lo)) (a.ht + b.ht + c.lo)
  have f1 := bigF_ge b.hi (b.ht + c.hi)
  have f2 := bigF_ge a.hi (a.ht + bigF b.hi (b.ht + c.hi))
  have f3 := bigF_ge a.hi (a.ht + b.hi)
  have f4 := bigF_ge (bigF a.hi (a.ht + b.hi)) (a.ht + b.ht + c.hi)
  refine ⟨by omega, by omega, ?_, ?_, by omega⟩ <;> omega
structure OneS (s : StN) : Prop where
  gas : s.g0 = s.g1
  lo : s.lo ≤ s.ht
  hi : s.ht ≤ s.hi
theorem one_zero : OneS zeroS := ⟨rfl, by decide, by decide⟩
theorem then_zero {s : StN} (h : OneS s) : thenS s zeroS = s := by
  obtain ⟨g0, g1, lo, hi, ht⟩ := s
  obtain ⟨h1, h2, h3⟩ := h
  simp only at h1 h2 h3
  have a := smallF_le lo (ht + 0)
  have b := bigF_ge hi (ht + 0)
  simp only [thenS, zeroS, StN.mk.injEq]
  omega
theorem one_then {s o : StN} (h : OneS s) (k : o.g0 = o.g1) (k1 : o.lo ≤ o.ht) (k2 : o.ht ≤ o.hi) : OneS (thenS s o) := by
  obtain ⟨h1, h2, h3⟩ := h
  have a := smallF_le s.lo (s.ht + o.lo)
  have b := bigF_ge s.hi (s.ht + o.hi)
  exact ⟨by simp only [thenS]; omega, by simp only [thenS]; omega, by simp only [thenS]; omega⟩
theorem one_op {cs : List Nat} {i : Nat} {s : StN} (h : opS cs i = some s) : s.g0 = s.g1 ∧ s.lo ≤ s.ht ∧ s.ht ≤ s.hi := by
  unfold opS at h
  split at h
  · cases h
    have b := bigF_ge 0 (((infoN (byN cs i)).outs : Int) - (infoN (byN cs i)).ins)
    refine ⟨rfl, ?_, ?_⟩ <;> simp only [opT] <;> omega
  · cases h
def rowF (cs : List Nat) (B : BlkN) (l : List Nat) (acc : StN) : StN := l.foldl (fun s i => if B.first ≤ i ∧ i ≤ B.last then thenS s (opT (infoN (byN cs i))) else s) acc
theorem row_alF {cs : List Nat} {B : BlkN} : ∀ (l : List Nat) (acc s t : StN), alF cs B l (some s) = some t → rowF cs B l (thenS acc s) = thenS acc t ∧ (OneS (thenS acc s) → OneS (thenS acc t))
  | [], acc, s, t, h => by cases h; exact ⟨rfl, id⟩
  | x :: l, acc, s, t, h => by
    have e : alF cs B (x :: l) (some s) = alF cs B l (if B.first ≤ x ∧ x ≤ B.last then (opS cs x).map (thenS s) else some s) := rfl
    have e2 : rowF cs B (x :: l) (thenS acc s) = rowF cs B l (if B.first ≤ x ∧ x ≤ B.last then thenS (thenS acc s) (opT (infoN (byN cs x))) else thenS acc s) := rfl
    rw [e] at h
    rw [e2]
    by_cases hx : B.first ≤ x ∧ x ≤ B.last
    · rw [if_pos hx] at h ⊢
      cases ho : opS cs x with
      | none => rw [ho] at h; simp only [Option.map_none] at h; rw [alF_none] at h; cases h
      | some y =>
        rw [ho] at h
        have hy : y = opT (infoN (byN cs x)) := by
          unfold opS at ho
          split at ho
          · exact (Option.some.inj ho).symm
          · cases ho
        obtain ⟨k1, k2, k3⟩ := one_op ho
        rw [← hy, ← then_assoc]
        obtain ⟨r1, r2⟩ := row_alF l acc (thenS s y) t h
        exact ⟨r1, fun h1 => r2 (by rw [then_assoc]; exact one_then h1 k1 k2 k3)⟩
    · rw [if_neg hx] at h ⊢
      exact row_alF l acc s t h
theorem row_alone {cs : List Nat} {B : BlkN} {a acc : StN} (h : aloneS cs B = some a) (ho : OneS acc) : rowF cs B (opsL cs) acc = thenS acc a ∧ OneS (thenS acc a) := by
  unfold aloneS at h
  split at h
  · cases h
  · have := row_alF (opsL cs) acc zeroS a h
    rw [then_zero ho] at this
    exact ⟨this.1, this.2 ho⟩
def goesF (cs : List Nat) (bs : List BlkN) (en : Nat) (pick : Nat → Nat → Nat) : Nat → Nat → Nat → StN → Option StN
  | 0, _, _, _ => none
  | f + 1, i, k, acc => if k = en then some acc else if (findB bs k).isNone = true ∨ (blkOf bs k).next = [] then none else
      goesF cs bs en pick f (i + 1) ((blkOf bs k).next.getD (pick i (blkOf bs k).next.length) 0) (rowF cs (blkOf bs k) (opsL cs) acc)
structure InS (acc s t : StN) : Prop where
  g0 : acc.g0 + s.g0 ≤ t.g0
  g1 : t.g1 ≤ acc.g1 + s.g1
  lo : smallF acc.lo (acc.ht + s.lo) ≤ t.lo
  hi : t.hi ≤ bigF acc.hi (acc.ht + s.hi)
  ht : t.ht = acc.ht + s.ht
  one : OneS t
theorem foldR_in : ∀ (r : List StN) (s t : StN), foldR r s = some t → (t.g0 ≤ s.g0 ∧ s.g1 ≤ t.g1 ∧ t.lo ≤ s.lo ∧ s.hi ≤ t.hi ∧ t.ht = s.ht) ∧ ∀ x ∈ r, t.g0 ≤ x.g0 ∧ x.g1 ≤ t.g1 ∧ t.lo ≤ x.lo ∧ x.hi ≤ t.hi ∧ t.ht = x.ht
  | [], s, t, h => by cases h; exact ⟨⟨Int.le_refl _, Int.le_refl _, Int.le_refl _, Int.le_refl _, rfl⟩, fun x hx => by cases hx⟩
  | y :: r, s, t, h => by
    unfold foldR at h
    split at h
    · rename_i he
      obtain ⟨⟨k1, k2, k3, k4, k5⟩, k6⟩ := foldR_in r (orS s y) t h
      simp only [orS] at k1 k2 k3 k4 k5
      have a1 := smallF_le s.g0 y.g0
      have a2 := bigF_ge s.g1 y.g1
      have a3 := smallF_le s.lo y.lo
      have a4 := bigF_ge s.hi y.hi
      refine ⟨by omega, fun x hx => ?_⟩
      rcases List.mem_cons.1 hx with rfl | hx
      · omega
      · exact k6 x hx
    · cases h
theorem foldO_in {l : List StN} {t : StN} (h : foldO l = some t) : ∀ x ∈ l, t.g0 ≤ x.g0 ∧ x.g1 ≤ t.g1 ∧ t.lo ≤ x.lo ∧ x.hi ≤ t.hi ∧ t.ht = x.ht := by
  cases l with
  | nil => cases h
  | cons s r =>
    obtain ⟨h1, h2⟩ := foldR_in r s t h
    intro x hx
    rcases List.mem_cons.1 hx with rfl | hx
    · exact h1
    · exact h2 x hx
theorem goes_in {cs : List Nat} {bs : List BlkN} {en : Nat} (pick : Nat → Nat → Nat) (hp : ∀ i m, 0 < m → pick i m < m) (hfe : ∀ k a, aloneS cs (blkOf bs k) = some a → (blkOf bs k).next ≠ [] → (findB bs k).isSome = true) {n k : Nat} {s : StN} (h : Wt cs bs en n k s) :
    ∀ (f i : Nat) (acc : StN), n < f → OneS acc → ∃ t, goesF cs bs en pick f i k acc = some t ∧ InS acc s t := by
  induction h with
  | stop n =>
    intro f i acc hf ho
    obtain ⟨f, rfl⟩ : ∃ f', f = f' + 1 := ⟨f - 1, by omega⟩
    refine ⟨acc, by unfold goesF; rw [if_pos rfl], ?_⟩
    have a := smallF_le acc.lo (acc.ht + zeroS.lo)
    have b := bigF_ge acc.hi (acc.ht + zeroS.hi)
    exact ⟨by simp [zeroS], by simp [zeroS], a.1, b.1, by simp [zeroS], ho⟩
  | go n k a l r h1 h2 h3 h4 h5 ih =>
    intro f i acc hf ho
    obtain ⟨f, rfl⟩ : ∃ f', f = f' + 1 := ⟨f - 1, by omega⟩
    have hne : (blkOf bs k).next ≠ [] := fun e => by
      rw [e] at h3
      have : l = [] := List.length_eq_zero_iff.1 h3
      rw [this] at h5; cases h5
    have hlen : 0 < (blkOf bs k).next.length := List.length_pos_iff.2 hne
    have hj := hp i _ hlen
    obtain ⟨e1, e2⟩ := row_alone h2 ho
    obtain ⟨t, ht, hin⟩ := ih (pick i (blkOf bs k).next.length) hj (by omega) f (i + 1) (thenS acc a) (by omega) e2
    have hs := hfe k a h2 hne
    refine ⟨t, ?_, ?_⟩
    · unfold goesF
      rw [if_neg h1, if_neg (by rw [not_or]; exact ⟨by cases hx : findB bs k <;> simp_all, hne⟩), e1]
      have : (blkOf bs k).next.getD (pick i (blkOf bs k).next.length) 0 = (blkOf bs k).next[pick i (blkOf bs k).next.length] := by simp [List.getD_eq_getElem?_getD, hj]
      rw [this]
      exact ht
    · have hx := foldO_in h5 (l[pick i (blkOf bs k).next.length]'(by omega)) (List.getElem_mem _)
      generalize l[pick i (blkOf bs k).next.length]'(by omega) = x at hin hx
      obtain ⟨k1, k2, k3, k4, k5, k6⟩ := hin
      simp only [thenS] at k1 k2 k3 k4 k5
      have a1 := smallF_le acc.lo (acc.ht + a.lo)
      have a2 := smallF_le (smallF acc.lo (acc.ht + a.lo)) (acc.ht + a.ht + x.lo)
      have a3 := smallF_le a.lo (a.ht + r.lo)
      have a4 := smallF_le acc.lo (acc.ht + smallF a.lo (a.ht + r.lo))
      have b1 := bigF_ge acc.hi (acc.ht + a.hi)
      have b2 := bigF_ge (bigF acc.hi (acc.ht + a.hi)) (acc.ht + a.ht + x.hi)
      have b3 := bigF_ge a.hi (a.ht + r.hi)
      have b4 := bigF_ge acc.hi (acc.ht + bigF a.hi (a.ht + r.hi))
      refine ⟨?_, ?_, ?_, ?_, ?_, k6⟩ <;> simp only [thenS] <;> omega
end
section
open Go.RowKit Go.Shelf
attribute [local go_sem] Oper.semAt_some
end
section
open Go.RowKit Go.Shelf
attribute [local go_sem] Oper.semAt_some
end
section
open Go.RowKit Go.Shelf
attribute [local go_sem] Oper.semAt_some
attribute [local go_sem 20000] run_max_big run_min_small
end
section
open Go.RowKit Go.Shelf
attribute [local go_sem] Oper.semAt_some
set_option maxRecDepth 100000 in
set_option maxHeartbeats 1000000 in
theorem refFindS_any (bs : List BlkN) (n : Int) (a : Option Addr) (c : Nat) (wS w : World) (h : BlksAt wS a c bs) (hwS : Below wS.heap.size wS w) (hl : bs.length ≤ 1000) :
    Calls Tryz.prog 34 #[.slice a bs.length c, .int .i64 n] w (fun e w' => (∃ p q, e = .returned (.tuple #[blkV p q ((findZ bs n).getD blk0), .bool (findZ bs n).isSome]) ∧ IntsAt wS p q ((findZ bs n).getD blk0).next) ∧ Below w.heap.size w w') := by
  have hB0 : Hid (BlkG (w.alloc (.cells #[.int .i64 0, .int .i64 0, .slice none 0 0, .bool false] 51)) w.heap.size 51 (blkC none 0 blk0)) := qh (BlkG.new w _ (blkC none 0 blk0))
  have hb0 : Hid (Below w.heap.size w (w.alloc (.cells #[.int .i64 0, .int .i64 0, .slice none 0 0, .bool false] 51))) := qh (xalloc (xrefl w) _)
  obtain ⟨fs, hu⟩ := struct_block
  have hyes : Hid (∀ k, (hk : k < bs.length) → (bs[k].first : Int) = n → (∀ j, (hj : j < bs.length) → j < k → (bs[j].first : Int) ≠ n) → findZ bs n = some bs[k]) := qh fun k hk e hn => find_some hk (by simpa using e) fun j hj hjk => by simpa using hn j hj hjk
  have hno : Hid ((∀ j, (hj : j < bs.length) → (bs[j].first : Int) ≠ n) → findZ bs n = none) := qh fun hn => find_no fun j hj => by simpa using hn j hj
  have h2 := qh h
  clear h
  generalize findZ bs n = r at *
  go_enter Tryz.func34, Tryz.ntmps34
  go_wp2
  go_loop [6] (fun i => ∃ k : Nat, k ≤ bs.length ∧ i = .int .i64 k ∧ Hid (∀ j, (h : j < bs.length) → j < k → (bs[j].first : Int) ≠ n)) (fun i => bs.length - (intOf i).toNat)
  case atStart => exact ⟨0, by omega, rfl, qh fun j _ h => by omega⟩
  case round =>
    obtain ⟨k, hk, rfl, hs⟩ := hrel
    by_cases hlt : k < bs.length
    · have hltI : (k : Int) < bs.length := by omega
      obtain ⟨b, o, p, q, rfl, hr, hI⟩ := h2.out.elt k hlt
      replace hr := rangeAt_below (rangeAt_below hr hwS) hb0.out
      have hc := (range_blk hr).1
      by_cases e : (bs[k].first : Int) = n
      · have hrr := hyes.out k hlt e hs.out
        subst hrr
        rw [e] at hc
        replace e := qh e
        replace hr := qh hr
        replace hI := qh hI
        go_wp2_with (first
          | (refine wpList_load_mid rfl 51 _ rfl b (o + k * 4) rfl (blkC p q bs[k]) _ hr.out hu rfl (by kernel_rfl) ?_)
          | (refine wpList_store_blkG rfl 51 _ _ rfl w.heap.size rfl 51 (blkC none 0 blk0) (blkC p q bs[k]) hB0.out rfl rfl (by kernel_rfl) rfl ?_; intro w2 hB2 ho2; replace hB2 := qh hB2; replace ho2 := qh ho2))
        refine bodyPost_ret (results_blkG2 (p := 4) rfl _ _ w.heap.size 51 _ _ rfl hB2.out hu rfl (by kernel_rfl)) rfl ?_
        have hb2 := ho2.out.below hb0.out hb0.out.size (by rintro i rfl; omega)
        exact ⟨⟨p, q, rfl, hI.out⟩, hb2⟩
      · have hs2 : Hid (∀ j, (h : j < bs.length) → j < k + 1 → (bs[j].first : Int) ≠ n) := qh fun j h hj => by
          by_cases e2 : j = k
          · subst e2; exact e
          · exact hs.out j h (by omega)
        generalize (bs[k].first : Int) = y at *
        clear hr hI
        go_wp2
        exact ⟨⟨k + 1, by omega, rfl, hs2⟩, by simp [intOf]; omega⟩
    · obtain rfl : k = bs.length := by omega
      have hrr := hno.out fun j h => hs.out j h h
      subst hrr
      clear hlt
      go_wp2_with (refine wpList_store_blkG rfl 51 _ _ rfl w.heap.size rfl 51 (blkC none 0 blk0) (blkC none 0 blk0) hB0.out rfl rfl (by kernel_rfl) rfl ?_; intro w2 hB2 ho2; replace hB2 := qh hB2; replace ho2 := qh ho2)
      refine bodyPost_ret (results_blkG2 (p := 4) rfl _ _ w.heap.size 51 _ _ rfl hB2.out hu rfl (by kernel_rfl)) rfl ⟨⟨none, 0, rfl, intsAt_nil _⟩, ?_⟩
      exact ho2.out.below hb0.out hb0.out.size (by rintro i rfl; omega)
end
end Go.Proofs.YtijkdabmegbcjaaGreatDoor
