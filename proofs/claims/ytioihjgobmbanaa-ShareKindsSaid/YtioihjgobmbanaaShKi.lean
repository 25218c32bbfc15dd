/- The iterator of the kinds of calls. -/
import Derived.Test.YtioihjgobmbanaaShKeys
import Derived.Test.YtioihjgobmbanaaShColl
import Derived.Test.YtioihjgobmbanaaShareB
namespace Go.Proofs.Ytioihjgobmbanaa
open Go.RowKit Go.Shelf
attribute [local go_sem] Oper.semAt_some

/-- A new map with integer keys. -/
def mapT (q : IntKind) (l : List (Int × Value)) : Told := ⟨fun v => ∃ b : Nat, v = .map (some b), fun v W => ∀ b : Nat, v = .map (some b) → W.heap[b]? = some (mapI q l), ⟨_, 0, rfl⟩, fun v W W' h hb b e => by
  have := h b e
  exact (hb.block b (Array.getElem?_eq_some_iff.1 this).1).trans this⟩
def kindNm (x : Int) : ByteArray := if x = 1 then ⟨#[67, 65, 76, 76]⟩ else if x = 2 then ⟨#[67, 65, 76, 76, 67, 79, 68, 69]⟩ else if x = 3 then ⟨#[68, 69, 76, 69, 71, 65, 84, 69, 67, 65, 76, 76]⟩ else ⟨#[83, 84, 65, 84, 73, 67, 67, 65, 76, 76]⟩
@[go_sem] theorem kindNm_1 : kindNm 1 = ⟨#[67, 65, 76, 76]⟩ := Eq.trans rfl rfl
@[go_sem] theorem kindNm_2 : kindNm 2 = ⟨#[67, 65, 76, 76, 67, 79, 68, 69]⟩ := Eq.trans rfl rfl
@[go_sem] theorem kindNm_3 : kindNm 3 = ⟨#[68, 69, 76, 69, 71, 65, 84, 69, 67, 65, 76, 76]⟩ := Eq.trans rfl rfl
@[go_sem] theorem kindNm_4 : kindNm 4 = ⟨#[83, 84, 65, 84, 73, 67, 67, 65, 76, 76]⟩ := Eq.trans rfl rfl
def encKd (x : Int) : Array Value := #[.int .i64 x, .string (kindNm x)]
theorem kinds_sorted {xs : List Int} (h : xs.Perm (kindsL.map (·.1))) : (xs.mergeSort fun x y => decide (x ≤ y)) = [1, 2, 3, 4] := by
  have hk : kindsL.map (·.1) = [1, 2, 3, 4] := rfl
  rw [hk] at h
  have hp : (xs.mergeSort fun x y => decide (x ≤ y)).Perm [1, 2, 3, 4] := (List.mergeSort_perm xs _).trans h
  have hs := List.pairwise_mergeSort (le := fun x y : Int => decide (x ≤ y)) (by intro a b c h1 h2; simp at *; omega) (by intro a b; simp; omega) xs
  refine hp.eq_of_pairwise ?_ hs (by decide)
  intro a b _ _ h1 h2
  simp at h1 h2
  omega
theorem kinds_zero (w : World) : (zeroValue 53).run Try.prog w = .ok (.agg #[.string ⟨#[]⟩, .bool false]) w := by kernel_rfl
theorem kinds_look {x : Int} (h : x = 1 ∨ x = 2 ∨ x = 3 ∨ x = 4) (W : World) (q : Nat) (hm : W.heap[q]? = some (mapI .i64 kindsL)) : (Instr.lookup 55 (.map (some q)) (.int .i64 x) false).run Try.prog W = .ok (.agg #[.string (kindNm x), .bool (decide (x < 3))]) W := by
  have := run_lookI (P := Try.prog) (t := 55) Try.underlying55 Try.underlying27 kinds_zero x W q kindsL false hm
  rw [this]
  rcases h with rfl | rfl | rfl | rfl <;> rfl
theorem four_of {pre : List Int} {x : Int} {k : Nat} (h : pre ++ [x] = [1, 2, 3, 4].take k) : x = 1 ∨ x = 2 ∨ x = 3 ∨ x = 4 := by
  have : x ∈ ([1, 2, 3, 4] : List Int) := List.take_subset k _ (by rw [← h]; simp)
  simpa using this
theorem keys_le (pre : List Int) (h : ∃ seen : List Nat, seen.Nodup ∧ (∀ j ∈ seen, j < kindsL.length) ∧ pre = ck_keyAt kindsL seen) : pre.length ≤ 4 := by
  obtain ⟨seen, h1, h2, rfl⟩ := h
  unfold ck_keyAt
  rw [List.length_map]
  exact seen_le h1 h2
theorem perm_le (xs : List Int) (h : xs.Perm (kindsL.map (·.1))) : xs.length ≤ 4 := by rw [h.length_eq]; decide
theorem seqIn_kinds (w : World) : (w.alloc (mapI .i64 kindsL)).heap[w.heap.size]? = some (mapI .i64 kindsL) := World.alloc_heap_new w _
theorem seqIn_mk {w1 w2 : World} {bm bx : Nat} (hm : w1.heap[bm]? = some (mapI .i64 kindsL)) (hb : Below w1.heap.size w1 w2) (hx : w2.cell? ⟨bx, 0, none⟩ = some (.map (some bm))) :
    SeqIn 54 #[.pointer (some ⟨bx, 0, none⟩)] (fun k => k = bm) (fun xs => xs.Perm (kindsL.map (·.1))) (fun pre => ∃ seen : List Nat, seen.Nodup ∧ (∀ j ∈ seen, j < kindsL.length) ∧ pre = ck_keyAt kindsL seen) 4 w2 := by
  have hm2 : w2.heap[bm]? = some (mapI .i64 kindsL) := (hb.block bm (Array.getElem?_eq_some_iff.1 hm).1).trans hm
  exact ⟨enters_of Try.func54 (by kernel_rfl) rfl, fun W hW => ck_keys_seq kindsL bx bm W (cbel hW hx) ((hW.block bm (Array.getElem?_eq_some_iff.1 hm2).1).trans hm2), fun k e => by rw [e]; exact (Array.getElem?_eq_some_iff.1 hm2).1, by decide⟩
set_option maxRecDepth 100000 in
set_option maxHeartbeats 1000000 in
theorem kinds1_seq (W : World) : SeqP Try.prog 36 #[] encKd (fun _ => False) (fun xs => xs = [1, 2, 3, 4]) (fun pre => ∃ k, k ≤ 4 ∧ pre = [1, 2, 3, 4].take k) 4 false W := by
  intro l J Jx hJ hJx hY h0 _
  have by0 : Box (W.alloc (.cells #[.func (.yield l) #[] #[]] 71)) W.heap.size (.func (.yield l) #[] #[]) 71 := Box.new W _ _
  have hb0 : Below W.heap.size W (W.alloc (.cells #[.func (.yield l) #[] #[]] 71)) := xalloc (xrefl W) _
  replace hJ := Lib.hid hJ
  replace hJx := Lib.hid hJx
  replace hY := Lib.hid hY
  replace h0 := Lib.hid h0
  replace by0 := Lib.hid by0
  replace hb0 := Lib.hid hb0
  refine callsIn_of_wp_marks Try.func36 rfl trivial ?_ rfl
  simp only [Try.ntmps36, List.size_toArray, List.length_cons, List.length_nil, Nat.reduceAdd, Nat.reduceSub, Array.replicate_succ, Array.replicate_zero, List.push_toArray, List.append_toArray, List.nil_append, List.cons_append]
  refine wpIn_wide.2 ?_
  go_wp2_with fail
  go_step3
  go_wp2_with fail
  go_step3
  generalize W.alloc (.cells #[.func (.yield l) #[] #[]] 71) = w0 at by0 hb0 ⊢
  have hz0 := hb0.out.size
  have hy0 := by0.out.lt
  go_wp2_with (first
    | (go_at_call 23; refine (kinds_any _).mono ?_; rintro e w1 ⟨rfl, hw1⟩; have hm1 := seqIn_kinds w0; rw [hw1] at hm1; have hx01 := xalloc (xrefl w0) (mapI .i64 kindsL); rw [hw1] at hx01; replace hw1 := Lib.hid hw1; replace hm1 := Lib.hid hm1; replace hx01 := Lib.hid hx01)
    | (go_at_call 39; refine (ck_keys_any _ _).mono ?_; rintro e w2 ⟨rfl, hw2⟩; have hx12 := xalloc (xrefl w1) (Obj.cells #[.map (some w0.heap.size)] 55); have hbx2 := boxed_cell (World.alloc_heap_new w1 (Obj.cells #[.map (some w0.heap.size)] 55)); rw [hw2] at hx12 hbx2; have hq := seqIn_mk hm1.out hx12 hbx2; replace hw2 := Lib.hid hw2; replace hx12 := Lib.hid hx12; replace hq := Lib.hid hq; clear hbx2))
  refine (ck_sorted_any w2 hq.out keys_le perm_le).mono ?_
  rintro e w3 ⟨v3, xs3, rfl, hperm, hown3, hb23⟩
  rw [kinds_sorted hperm] at hown3
  have hl3 : xs3.length = 4 := by have := hperm.length_eq; simpa [kindsL] using this
  rw [hl3] at hown3
  obtain ⟨a3, c3, rfl, hr3, -, hge3, -⟩ := rowAt_own (zs := [1, 2, 3, 4]) hown3
  obtain ⟨pb, po, rfl, -⟩ := hr3 0 (by decide)
  replace hb23 := Lib.hid hb23
  replace hr3 := Lib.hid hr3
  replace hge3 := Lib.hid hge3
  clear hperm hown3
  go_wp2_with (go_at_call 37; refine (ck_values_any _ _ _ _).mono ?_; rintro e w4 ⟨rfl, hw4⟩; replace hw4 := Lib.hid hw4)
  have hw4b := xalloc (xrefl w3) (Obj.cells #[.slice (some ⟨pb, po, none⟩) 4 c3] 75)
  have hby := boxed_cell (World.alloc_heap_new w3 (Obj.cells #[.slice (some ⟨pb, po, none⟩) 4 c3] 75))
  rw [hw4.out] at hw4b hby
  obtain ⟨B, hB⟩ : ∃ B, B = W.heap.size := ⟨_, rfl⟩
  have hx04 : Below w0.heap.size w0 w4 := xtrans (xtrans (xtrans hx01.out hx12.out) hb23.out) hw4b
  have hxW4 : Below W.heap.size W w4 := xtrans hb0.out hx04
  have by4 := by0.out.below hx04
  have hr4 := hr3.out.below hw4b
  have hpb4 : pb < w4.heap.size := by
    obtain ⟨b', o', e, ce⟩ := hr4 0 (by decide)
    cases e
    exact cell_lt ce
  have hpbB : B ≤ pb := by have h : w2.heap.size ≤ pb := hge3.out _ rfl; have := hx01.out.size; have := hx12.out.size; omega
  have hBM : B ≤ w4.heap.size := by have := hxW4.size; omega
  have hBl := by4.lt
  have h04 : J (fun k => False ∨ (B ≤ k ∧ k < w4.heap.size)) [] w4 := hJ.out _ _ _ W w4 h0.out (fun k h => h.elim) (Below.only hxW4) (fun k h => h.elim (fun h => h.elim) (fun h => .inr (by omega)))
  rw [← hB] at by4 hBl hJ hJx hY ⊢
  replace hr4 := Lib.hid hr4
  replace hby := Lib.hid hby
  replace by4 := Lib.hid by4
  replace h04 := Lib.hid h04
  have fF : Fac (· = B) (fun W => Box W B (.func (.yield l) #[] #[]) 71) := Fac.box _ _ _
  clear hx04 hxW4 hw4b hw4 hw2 hw1 hr3 hge3 hb23 hq hx12 hx01 hm1 hb0 by0 h0
  replace hB := Lib.hid hB
  refine (wpIn_wide (n := 0)).1 ?_
  refine wp_rangeP (gf := 51) (lb := #[.pointer (some ⟨w3.heap.size, 0, none⟩)]) rfl (enters_of Try.func51 (by kernel_rfl) rfl) (encs := fun x : Int => #[.int .i64 x]) (Rd := fun k => k = pb)
    (S := fun xs => xs = [1, 2, 3, 4]) (Sp := fun pre => ∃ k, k ≤ 4 ∧ pre = [1, 2, 3, 4].take k) (N := 4) (inf := false) (fun k h => by omega)
    (fun W1 hb1 => ck_values_seq [1, 2, 3, 4] _ pb po c3 W1 (cbel hb1 hby.out) (hr4.out.below hb1) (by decide)) (fun x => rfl) (NI J B w4.heap.size (fun W => Box W B (.func (.yield l) #[] #[]) 71)) (NX Jx B w4.heap.size (.exit 0)) (ni_stable hJ.out hBM fF (fun k e => by rw [e]; exact hBl)) (nx_stable hJx.out hBM) ⟨h04.out, by4.out⟩ (fun h => by cases h) ?round ?done ?stop
  case round =>
    rintro l1 O pre x W1 hOl hO ⟨hJ1, hF1⟩ hlen hsp
    gi_wp2
    refine ⟨Keep.refl _ _, fun W2 hon => ?_⟩
    have hJ2 : J (fun k => O k ∨ (B ≤ k ∧ k < w4.heap.size)) pre W2 := ni_J hJ.out hBM hJ1 (fun k h => (hO k h).1) (hon.mono fun k _ e => by rw [e]; exact hOl) (fun k h => .inl h)
    have hF2 := hF1.only hon (fun e => by have := (hO l1 hOl).1; omega)
    have hs2 := hon.size
    have hM2 : w4.heap.size ≤ W2.heap.size := by have := (hO l1 hOl); omega
    have hO2 : ∀ k, O k → w4.heap.size ≤ k ∧ k < W2.heap.size := fun k h => by have := hO k h; omega
    obtain ⟨kk, hkk, hpre⟩ := hsp
    have hx4 := four_of hpre
    have cy := hF2.cell
    replace hJ2 := Lib.hid hJ2
    replace hF2 := Lib.hid hF2
    replace hO2 := Lib.hid hO2
    replace hpre := Lib.hid hpre
    replace hx4' := Lib.hid hx4
    clear hJ1 hF1 hon hO
    gi_wp2_with fail
    refine' wpIn_region_growL 6 [fixd _, fixd _, mapT .i64 kindsL, fixd _, fixd _, fixd _] (by kernel_rfl) (by kernel_rfl) (by kernel_rfl) ?_
    rotate_left 5
    simp only [List.take_succ_cons, List.take_zero, List.drop_succ_cons, List.drop_zero]
    try simp only [Act.put, List.setIfInBounds_toArray, List.set_cons_succ, List.set_cons_zero, List.nil_append, List.cons_append]
    refine' wpGrowV_fix _ rfl rfl (fun W hb _ => by have c := cbel hb cy; go_simp; first | exact xrefl W | exact ⟨rfl, xrefl W⟩) ?_
    try simp only [Act.put, List.setIfInBounds_toArray, List.set_cons_succ, List.set_cons_zero, List.nil_append, List.cons_append]
    refine' wpGrowV_fix _ rfl rfl (fun W hb _ => by go_simp; first | exact xrefl W | exact ⟨rfl, xrefl W⟩) ?_
    try simp only [Act.put, List.setIfInBounds_toArray, List.set_cons_succ, List.set_cons_zero, List.nil_append, List.cons_append]
    refine wpGrowV_any (mapT .i64 kindsL) rfl rfl (fun W hb hF => ?_) (fun v hv => ?_)
    · go_simp
      go_at_call 23
      refine (kinds_any W).mono ?_
      rintro e w' ⟨rfl, rfl⟩
      exact ⟨_, rfl, ⟨⟨_, rfl⟩, fun b e => by cases e; exact World.alloc_heap_new W _⟩, xalloc (xrefl W) _⟩
    obtain ⟨qm, rfl⟩ := hv
    try simp only [Act.put, List.setIfInBounds_toArray, List.set_cons_succ, List.set_cons_zero, List.nil_append, List.cons_append]
    refine' wpGrowV_fix _ rfl rfl (fun W hb _ => by go_simp; first | exact xrefl W | exact ⟨rfl, xrefl W⟩) ?_
    try simp only [Act.put, List.setIfInBounds_toArray, List.set_cons_succ, List.set_cons_zero, List.nil_append, List.cons_append]
    refine' wpGrowV_fix _ rfl rfl (fun W hb hF => ?_) ?_
    · have hm := hF 2 (by kernel_rfl) (by simp) qm rfl
      clear hF
      have hlk := kinds_look hx4 W qm hm
      go_simp
      refine ⟨?_, xrefl W⟩
      exact rfl
    try simp only [Act.put, List.setIfInBounds_toArray, List.set_cons_succ, List.set_cons_zero, List.nil_append, List.cons_append]
    refine' wpGrowV_fix _ rfl rfl (fun W hb _ => by go_simp; first | exact xrefl W | exact ⟨rfl, xrefl W⟩) ?_
    try simp only [Act.put, List.setIfInBounds_toArray, List.set_cons_succ, List.set_cons_zero, List.nil_append, List.cons_append]
    refine wpGrowV_nil fun W3 hb3 _ => ?_
    have hJ3 : J (fun k => O k ∨ (B ≤ k ∧ k < w4.heap.size)) pre W3 := ni_J hJ.out hBM hJ2.out (fun k h => (hO2.out k h).1) (Below.only hb3) (fun k h => .inl h)
    have hO3 : ∀ k, (O k ∨ (B ≤ k ∧ k < w4.heap.size)) → B ≤ k ∧ k < W3.heap.size := fun k h => by
      have := hb3.size
      rcases h with h | h
      · have := hO2.out k h; omega
      · omega
    obtain ⟨fnc, tmps, assign, body, hy, hR⟩ := hY.out (fun k => O k ∨ (B ≤ k ∧ k < w4.heap.size)) pre x W3 hO3 hJ3 hlen ⟨kk, hkk, hpre.out⟩
    have hF3 := hF2.out.below hb3
    replace hR := Lib.hid hR
    replace hF3 := Lib.hid hF3
    replace hb3 := Lib.hid hb3
    replace hO3 := Lib.hid hO3
    clear hJ3 hx4
    unfold encKd at hy
    gi_wp2
    have hR' : RoundIn (Fence.wide.inRound l1) 0 Try.prog l fnc tmps assign body W3 fun e X' =>
        e = .returned (.bool true) ∧ J (fun k => O k ∨ (B ≤ k ∧ k < w4.heap.size)) (pre ++ [x]) X' ∧ Keep (fun k => (O k ∨ (B ≤ k ∧ k < w4.heap.size)) ∨ False) W3 X' ∨
        e = .returned (.bool false) ∧ Jx (fun k => O k ∨ (B ≤ k ∧ k < w4.heap.size)) (pre ++ [x]) X' ∧ Keep (fun k => (O k ∨ (B ≤ k ∧ k < w4.heap.size)) ∨ False) W3 X' := hR.out
    clear hR
    refine ⟨rfl, hR'.mono ?_⟩
    clear hR' hy
    rintro e W5 (⟨rfl, hJ5, hk5⟩ | ⟨rfl, hJx5, hk5⟩)
    · have hF5 := fF.keep hF3.out hk5 (fun k e => .inl (.inr (by omega)))
      have hkw : Keep (fun k => O k ∨ k = pb) W2 W5 := (Below.keep hb3.out).trans (hk5.mono fun k _ h => h.elim (fun h => .inl (.inl h)) (fun h => .inl (.inr (by omega))))
      replace hJ5 := Lib.hid hJ5
      replace hF5 := Lib.hid hF5
      replace hkw := Lib.hid hkw
      clear hk5
      gi_wp2
      exact ⟨hkw.out, hJ5.out, hF5.out⟩
    · have hkw : Keep (fun k => O k ∨ k = pb) W2 W5 := (Below.keep hb3.out).trans (hk5.mono fun k _ h => h.elim (fun h => .inl (.inl h)) (fun h => .inl (.inr (by omega))))
      replace hJx5 := Lib.hid hJx5
      replace hkw := Lib.hid hkw
      clear hk5
      gi_wp2
      exact ⟨hkw.out, rfl, hJx5.out⟩
  case done =>
    rintro D xs O W1 hD hOD hO hS ⟨h1, h2⟩ hK
    replace h1 := Lib.hid h1
    replace h2 := Lib.hid h2
    replace hS := Lib.hid hS
    gi_wp2
    rw [Exit.noGoto_normal]
    refine ⟨by simp, .inl ⟨_, _, rfl, run_takeDeferred hK, ?_⟩⟩
    have hput := (Only.refl O W1).putObj D (.deferred none) hOD
    refine ⟨_, results_none rfl _ _ _, ⟨_, rfl⟩, .inl ⟨_, _, hS.out, fun k h => ?_, ni_J hJ.out hBM h1.out hO hput (fun k h => .inl h)⟩⟩
    have := hB.out
    rcases h with h | h
    · have := hO k h; omega
    · omega
  case stop =>
    rintro D c pre O W1 hD hOD hO hSp ⟨rfl, hj⟩ hK
    replace hj := Lib.hid hj
    replace hSp := Lib.hid hSp
    gi_wp2
    rw [Exit.noGoto_normal]
    refine ⟨by simp, .inl ⟨_, _, rfl, run_takeDeferred hK, ?_⟩⟩
    have hput := (Only.refl O W1).putObj D (.deferred none) hOD
    refine ⟨_, results_none rfl _ _ _, ⟨_, rfl⟩, .inr ⟨_, _, hSp.out, fun k h => ?_, ni_J hJx.out hBM hj.out hO hput (fun k h => .inl h)⟩⟩
    have := hB.out
    rcases h with h | h
    · have := hO k h; omega
    · omega
end Go.Proofs.Ytioihjgobmbanaa
