/- slices.AppendSeq, Collect, over iterators of integers (27); slices.Values. -/
import Derived.Test.YtioihjgobmbanaaColl
import Derived.Test.YtioihjgobmbanaaShelf
import Derived.Sort.OwnSortedInts
namespace Go.Proofs.Ytioihjgobmbanaa
open Go.RowKit Go.Shelf Go.Sort
attribute [local go_sem] Oper.semAt_some

theorem ck_info : (Try.prog.info? 27).map (fun i => (i.zero, i.size, i.bytes)) = some (some (Value.int .i64 0), 1, 8) := by kernel_rfl
/-- What is asked of an iterator over integers that is gone over to its end. -/
structure SeqIn (gf : Nat) (lb : Array Value) (Rd : Nat → Prop) (S Sp : List Int → Prop) (N : Nat) (w : World) : Prop where
  en : ∀ args w, (callFunc gf args).run Try.prog w = .ok (.enter gf args) w
  seq : ∀ W, Below w.heap.size w W → SeqP Try.prog gf lb (fun x : Int => #[.int .i64 x]) Rd S Sp N false W
  rd : ∀ k, Rd k → k < w.heap.size
  le : N ≤ 1000000
theorem SeqIn.below {gf : Nat} {lb : Array Value} {Rd : Nat → Prop} {S Sp : List Int → Prop} {N : Nat} {w w' : World} (h : SeqIn gf lb Rd S Sp N w) (hb : Below w.heap.size w w') : SeqIn gf lb Rd S Sp N w' :=
  ⟨h.en, fun W hW => h.seq W (xtrans hb hW), fun k hk => Nat.lt_of_lt_of_le (h.rd k hk) hb.size, h.le⟩
set_option maxRecDepth 100000 in
set_option maxHeartbeats 1000000 in
theorem ck_appendSeq_any {gf : Nat} {lb : Array Value} {Rd : Nat → Prop} {S Sp : List Int → Prop} {N : Nat} (w : World) (h : SeqIn gf lb Rd S Sp N w) (hSp : ∀ pre, Sp pre → pre.length ≤ N) (hSl : ∀ xs, S xs → xs.length ≤ N) :
    Calls Try.prog 62 #[.slice none 0 0, .func (.func gf) #[] lb] w fun e w' => ∃ v xs, e = .returned v ∧ S xs ∧ w'.ownsRow w.heap.size 27 1 v xs.length (xs.map (Value.int .i64)) ∧ Below w.heap.size w w' := by
  obtain ⟨i0, hi, hz0, hz1, hz2⟩ := info_parts ck_info
  have hle := h.le
  have hrd := h.rd
  have hbw : Below w.heap.size w (w.alloc (.cells #[.slice none 0 0] 75)) := xalloc (xrefl w) _
  have h1 := Lib.hid (h.below hbw)
  have h00 : AI (α := Int) 75 27 (Value.int .i64) w.heap.size w (fun _ => False) [] (w.alloc (.cells #[.slice none 0 0] 75)) :=
    ⟨.slice none 0 0, World.alloc_heap_new w _, ⟨rfl, .inl ⟨rfl, rfl⟩⟩, (fun g h => by cases h), hbw⟩
  replace h00 := Lib.hid h00
  replace hSp := Lib.hid hSp
  clear h
  refine (callsIn_wide (n := 0)).1 ?_
  refine callsIn_of_wp_marks Try.func62 rfl trivial ?_ rfl
  simp only [Try.ntmps62, List.size_toArray, List.length_cons, List.length_nil, Nat.reduceAdd, Nat.reduceSub, Array.replicate_succ, Array.replicate_zero, List.push_toArray, List.append_toArray, List.nil_append, List.cons_append]
  refine wpIn_wide.2 ?_
  go_wp2
  have hsz : (w.alloc (.cells #[.slice none 0 0] 75)).heap.size = w.heap.size + 1 := World.size_alloc _ _
  generalize w.alloc (.cells #[.slice none 0 0] 75) = w1 at h1 h00 hsz hbw ⊢
  have hst := ai_stable (α := Int) (ST := 75) (ET := 27) (enc := Value.int .i64) (w := w) (B := w.heap.size) w1.heap.size (by omega) (by omega)
  refine (wpIn_wide (n := 0)).1 ?_
  refine wp_rangeP (gf := gf) (lb := lb) rfl h1.out.en (encs := fun x : Int => #[.int .i64 x]) (Rd := Rd)
    (S := S) (Sp := Sp) (N := N) (inf := false) h1.out.rd h1.out.seq (fun x => rfl) (AI 75 27 (Value.int .i64) w.heap.size w) (fun _ _ _ _ => False) hst (fun _ _ _ _ _ _ h _ _ _ => h) h00.out (fun h => by cases h) ?round ?done ?stop
  case round =>
    rintro l1 O pre m W1 hOl hO ⟨v, g1, g2, g3, g4⟩ hlen hsp
    gi_wp2
    refine ⟨Keep.refl _ _, fun W2 hon => ?_⟩
    have hl4 : w1.heap.size ≤ l1 := (hO l1 hOl).1
    have hlW := (hO l1 hOl).2
    have n1 : ¬ (w.heap.size = l1) := by omega
    have c1 : W2.heap[w.heap.size]? = some (.cells #[v] 75) := (hon.same _ (Array.getElem?_eq_some_iff.1 g1).1 n1).trans g1
    have o1 := ai_only g2 hon (fun g hg e => g3 g hg (by rw [e]; exact hOl))
    have b1 := hon.below g4 g4.size (by rintro i rfl; omega)
    have hs2 := hon.size
    have hOs : Hid (∀ k, O k → w.heap.size < k ∧ k < W2.heap.size) := Lib.hid fun k h => by have := hO k h; omega
    have hwl : w.heap.size < W2.heap.size := by omega
    replace g3 := Lib.hid g3
    clear hon g1 g2 g4 hO
    have cv := boxed_cell c1
    replace o1 := Lib.hid o1
    replace b1 := Lib.hid b1
    replace c1 := Lib.hid c1
    have hbW : Below W2.heap.size W2 (W2.alloc (.cells #[.int .i64 m] 27)) := xalloc (xrefl W2) _
    have c3 := (hbW.block _ hwl).trans c1.out
    have o3 := own_keep o1.out hbW
    have b3 := xtrans b1.out hbW
    have hq1 : (W2.alloc (.cells #[.int .i64 m] 27)).cell? ⟨W2.heap.size, 0, none⟩ = some (.int .i64 m) := boxed_cell (World.alloc_heap_new W2 _)
    have hne := boxed_ne o3 c3 (by decide)
    have hmid := fun (V5 : Value) (W5 : World) hg5 c5 o5 hvb => ai_next (ST := 75) (ET := 27) (V5 := V5) (W5 := W5) (show 27 ≠ 75 by decide) m hrd (Nat.le_refl _) o1.out hbW b3 hwl hg5 c5 o5 hvb g3.out hOs.out
    obtain ⟨W3, hW3⟩ : ∃ W3, W2.alloc (.cells #[.int .i64 m] 27) = W3 := ⟨_, rfl⟩
    rw [hW3] at hmid hq1 b3 o3 c3 hbW
    replace hmid := Lib.hid hmid
    replace hbW := Lib.hid hbW
    gi_wp2_with (refine wpListIn_append_blk W3 rfl _ _ 75 rfl w.heap.size 27 i0 (.int .i64 0) 8 Try.underlying75 hi hz0 hz1 hz2 rfl v pre.length _ rfl o3 ⟨W2.heap.size, 0, none⟩ 1 1 [.int .i64 m] rfl rfl (by intro j u hj; match j, hj with | 0, hj => (injection hj with hj; subst hj; exact hq1)) (by intro u hu; rw [List.mem_singleton.1 hu]; rfl) (by unfold maxLen; omega) (by omega) b3.size ?_; intro v5 W5 ho5 hg5 hvb5; have c5 : W5.heap[w.heap.size]? = some (.cells #[v] 75) := (hg5.block _ (Array.getElem?_eq_some_iff.1 c3).1 (fun e => hne e.symm)).trans c3; have cc5 := boxed_cell c5; have cf5 := boxed_free c5; obtain ⟨a5, e5, rfl⟩ := own_slice ho5; have hfin := hmid.out _ W5 hg5 c5 ho5 hvb5; replace hfin := Lib.hid hfin; clear ho5 hg5 hvb5 c5)
    exact ⟨hfin.out.2, hfin.out.1⟩
  case done =>
    rintro D xs O W hD hOD hO hS ⟨v, g1, g2, g3, g4⟩ hK
    have cv := boxed_cell g1
    have hKl := (Array.getElem?_eq_some_iff.1 hK).1
    replace hK := Lib.hid hK
    replace g1 := Lib.hid g1
    replace g2 := Lib.hid g2
    replace g4 := Lib.hid g4
    go_wp2
    have hput := (Only.refl (· = D) W).putObj D (.deferred none) rfl
    refine ⟨by simp [Act.put], .inl ⟨_, _, rfl, run_takeDeferred hK.out, ?_⟩⟩
    refine ⟨_, results_tmp rfl _ _ _, v, xs, rfl, hS, ai_only g2.out hput (fun g hg e => ?_), hput.below g4.out g4.out.size (by rintro i rfl; omega)⟩
    exact g3 g hg (by rw [e]; exact hOD)
  case stop =>
    rintro D c pre O W hD hOD hO _ h
    exact h.elim
theorem ck_collect_any {gf : Nat} {lb : Array Value} {Rd : Nat → Prop} {S Sp : List Int → Prop} {N : Nat} (w : World) (h : SeqIn gf lb Rd S Sp N w) (hSp : ∀ pre, Sp pre → pre.length ≤ N) (hSl : ∀ xs, S xs → xs.length ≤ N) :
    Calls Try.prog 52 #[.func (.func gf) #[] lb] w fun e w' => ∃ v xs, e = .returned v ∧ S xs ∧ w'.ownsRow w.heap.size 27 1 v xs.length (xs.map (Value.int .i64)) ∧ Below w.heap.size w w' := by
  have ha := Lib.hid (ck_appendSeq_any w h hSp hSl)
  clear h hSp hSl
  go_enter Try.func52, Try.ntmps52
  go_wp2_with (go_at_call 62; refine ha.out.mono ?_; rintro e w1 ⟨v, xs, rfl, hS, hown, hb⟩; replace hown := Lib.hid hown; replace hb := Lib.hid hb; replace hS := Lib.hid hS)
  go_ret
  exact ⟨v, xs, rfl, hS.out, hown.out, hb.out⟩

theorem ck_sorted_any {gf : Nat} {lb : Array Value} {Rd : Nat → Prop} {S Sp : List Int → Prop} {N : Nat} (w : World) (h : SeqIn gf lb Rd S Sp N w) (hSp : ∀ pre, Sp pre → pre.length ≤ N) (hSl : ∀ xs, S xs → xs.length ≤ N) :
    Calls Try.prog 38 #[.func (.func gf) #[] lb] w fun e w' => ∃ v xs, e = .returned v ∧ S xs ∧ w'.ownsRow w.heap.size 27 1 v xs.length ((xs.mergeSort fun x y => decide (x ≤ y)).map (Value.int .i64)) ∧ Below w.heap.size w w' := by
  have hc := Lib.hid (ck_collect_any w h hSp hSl)
  have hle := h.le
  have hSl' := Lib.hid hSl
  clear h hSp hSl
  go_enter Try.func38, Try.ntmps38
  go_upto_region 2 with (go_at_call 52; refine hc.out.mono ?_; rintro e w1 ⟨v, xs, rfl, hS, hown, hb⟩; have hlen := hSl'.out xs hS; replace hS := Lib.hid hS)
  rcases hown.2 with ⟨rfl, hz⟩ | ⟨gb, cap, cur, rfl, hbase, hgb, r1, r2, r3, r4⟩
  · have hxs : xs = [] := List.eq_nil_of_length_eq_zero hz
    subst hxs
    have hs0 := Try.slices_Sort_none_53 none 0 w1
    replace hown := Lib.hid hown
    replace hb := Lib.hid hb
    replace hs0 := Lib.hid hs0
    clear hz
    go_wp2_with (go_at_call 53; refine hs0.out.mono ?_; rintro e w' ⟨rfl, rfl⟩)
    go_ret
    exact ⟨_, [], rfl, hS.out, by simpa using hown.out, hb.out⟩
  · have hH : Holds (Value.int .i64) w1 gb 0 xs.toArray := Go.holds_of_blockI hgb (by simpa using r4)
    have hgl : gb < w1.heap.size := (Array.getElem?_eq_some_iff.1 hgb).1
    have hsz : xs.length < 4611686018427387904 := by omega
    have cS := Lib.hid (Try.slices_Sort_53 gb 0 cap xs w1 hH hgl hsz)
    clear hH
    replace hb := Lib.hid hb
    replace r4 := Lib.hid r4
    replace r3 := Lib.hid r3
    replace r2 := Lib.hid r2
    replace r1 := Lib.hid r1
    replace hown := Lib.hid hown
    replace hgb := Lib.hid hgb
    go_wp2_with (go_at_call 53; refine cS.out.mono ?_; rintro e w' ⟨rfl, nn, os, hw'⟩; replace hw' := Lib.hid hw')
    go_ret
    refine ⟨_, xs, rfl, hS.out, ?_, ?_⟩
    · rw [hw'.out]; exact Go.ownsRow_sortedI (by simp) hbase hgb.out r1.out r2.out r3.out
    · rw [hw'.out]; exact hb.out.grown (Go.grownBy_sortedI _) hb.out.size (fun j hj => by cases hj; exact hbase)

theorem ck_values_any (a : Option Addr) (n c : Nat) (w : World) : Calls Try.prog 37 #[.slice a n c] w fun e w' => e = .returned (.func (.func 51) #[] #[.pointer (some ⟨w.heap.size, 0, none⟩)]) ∧ w.alloc (.cells #[.slice a n c] 75) = w' := by
  go_enter Try.func37, Try.ntmps37
  go_wp2
  go_ret
  exact ⟨rfl, rfl⟩
set_option maxRecDepth 100000 in
set_option maxHeartbeats 1000000 in
theorem ck_values_seq (zs : List Int) (bx pb po c : Nat) (W : World) (hx : W.cell? ⟨bx, 0, none⟩ = some (.slice (some ⟨pb, po, none⟩) zs.length c)) (hr : RowAt .i64 W (some ⟨pb, po, none⟩) zs) (hl : zs.length ≤ 1000000) :
    SeqP Try.prog 51 #[.pointer (some ⟨bx, 0, none⟩)] (fun x : Int => #[.int .i64 x]) (fun k => k = pb) (fun xs => xs = zs) (fun pre => ∃ k, k ≤ zs.length ∧ pre = zs.take k) zs.length false W := by
  intro l J Jx hJ hJx hY h0 _
  replace hJ := Lib.hid hJ
  replace hY := Lib.hid hY
  replace hr := Lib.hid hr
  replace h0 := Lib.hid h0
  refine callsIn_of_wp Try.func51 rfl trivial ?_ rfl
  simp only [Try.ntmps51, List.size_toArray, List.length_cons, List.length_nil, Nat.reduceAdd, Nat.reduceSub, Array.replicate_succ, Array.replicate_zero, List.push_toArray, List.append_toArray, List.nil_append, List.cons_append]
  gi_wp2
  gi_loopw [7] (fun iv wr => ∃ (k : Nat), k ≤ zs.length ∧ iv = .int .i64 k ∧ Hid (J (fun _ => False) (zs.take k) wr) ∧ Hid (Keep (fun k => k = pb) W wr)) (fun iv wr => zs.length - (intOf iv).toNat)
  case atStart => exact ⟨0, by omega, rfl, h0, Lib.hid (Keep.refl _ _)⟩
  case round =>
    obtain ⟨k, hk, rfl, hJs, hkp⟩ := hrel
    by_cases hlt : k < zs.length
    · have hlt2 : (k : Int) < zs.length := by omega
      obtain ⟨b', o', e, ce⟩ := hr.out k hlt
      cases e
      have ce2 := hkp.out.cell ce rfl
      have hpre : Hid (zs.take (k + 1) = zs.take k ++ [zs[k]]) := Lib.hid (List.take_succ_eq_append_getElem hlt)
      have hpl : (zs.take k).length < zs.length := by rw [List.length_take]; omega
      obtain ⟨fn, tmps, assign, body, hy, hR⟩ := hY.out (fun _ => False) (zs.take k) zs[k] wr (fun k h => h.elim) hJs.out hpl ⟨k + 1, by omega, hpre.out.symm⟩
      rw [← hpre.out] at hR
      generalize zs[k] = z at *
      replace hR := Lib.hid hR
      clear ce hpl hpre
      gi_wp2
      refine ⟨rfl, hR.out.mono ?_⟩
      rintro e W3 (⟨rfl, hJ3, hk3⟩ | ⟨rfl, hJx3, hk3⟩)
      · have hkw : Keep (fun k => k = pb) W W3 := hkp.out.trans (hk3.mono fun k _ h => .inr h)
        replace hJ3 := Lib.hid hJ3
        replace hkw := Lib.hid hkw
        clear hk3 hR hy ce2
        gi_wp2
        exact ⟨⟨k + 1, by omega, rfl, hJ3, hkw⟩, by simp [intOf]; omega⟩
      · gi_wp2
        refine bodyPost_ret (results_none rfl _ _ _) rfl ?_
        exact ⟨⟨_, rfl⟩, .inr ⟨_, _, ⟨k + 1, by omega, rfl⟩, fun k h => h.elim, hJx3⟩⟩
    · have hkn : k = zs.length := by omega
      subst hkn
      have hJ4 := hJs.out
      rw [List.take_length] at hJ4
      clear hlt hJs
      replace hJ4 := Lib.hid hJ4
      gi_wp2
      go_end0
      exact ⟨⟨_, rfl⟩, .inl ⟨_, _, rfl, fun k h => h.elim, hJ4.out⟩⟩
end Go.Proofs.Ytioihjgobmbanaa
