/- Texts of this claim, merged; no condition. -/
import Derived.Test.YtbicfaiabpcgfaaGreatDoorD11
import Derived.Test.YtbicfaiabpcgfaaGreatDoorD07
import Derived.WalkKit
import Derived.BigGuard
import Derived.BigCall
import Derived.CellFam
import Derived.Deep.Draws
import Derived.Deep.QuietTactic
import Derived.BigQuiet
import Derived.Test.YtbicfaiabpcgfaaGreatDoorD03
set_option linter.all false
namespace Go.Proofs.YtbicfaiabpcgfaaGreatDoor
open Go.RowKit Go.Shelf
attribute [local go_sem] Oper.semAt_some

theorem cbkeys_any (bm : Nat) (w : World) : Calls Tryz.prog 55 #[.map (some bm)] w fun e w' => e = .returned (.func (.func 68) #[] #[.pointer (some ⟨w.heap.size, 0, none⟩)]) ∧ w.alloc (.cells #[.map (some bm)] 66) = w' := by
  go_enter Tryz.func55, Tryz.ntmps55
  go_wp2
  go_ret
  exact ⟨rfl, rfl⟩
/-- The keys of the places. -/
def cbkeyAt (l : List (Int × Value)) (seen : List Nat) : List Int := seen.map fun j => (l[j]?.map (·.1)).getD 0
theorem cbkeyAt_snoc (l : List (Int × Value)) (seen : List Nat) (j : Nat) (hj : j < l.length) : cbkeyAt l (seen ++ [j]) = cbkeyAt l seen ++ [l[j].1] := by
  unfold cbkeyAt; simp [hj]
theorem cbkeyAt_all (l : List (Int × Value)) : cbkeyAt l (List.range l.length) = l.map (·.1) := by
  unfold cbkeyAt
  apply List.ext_getElem (by simp)
  intro i h1 h2
  simp at h1
  simp [h1]
set_option maxRecDepth 100000 in
set_option maxHeartbeats 1000000 in
theorem cbkeys_seq (l : List (Int × Value)) (bx bm : Nat) (W : World) (hx : W.cell? ⟨bx, 0, none⟩ = some (.map (some bm))) (hm : W.heap[bm]? = some (mapI .u8 l)) :
    SeqP Tryz.prog 68 #[.pointer (some ⟨bx, 0, none⟩)] (fun x : Int => #[.int .u8 x]) (fun k => k = bm) (fun xs => xs.Perm (l.map (·.1))) (fun pre => ∃ seen : List Nat, seen.Nodup ∧ (∀ j ∈ seen, j < l.length) ∧ pre = cbkeyAt l seen) l.length false W := by
  intro l0 J Jx hJ hJx hY h0 _
  replace hJ := Lib.hid hJ
  replace hJx := Lib.hid hJx
  replace hY := Lib.hid hY
  have hrg := range_mapI (P := Tryz.prog) (t := 66) Tryz.underlying66 hm
  have hml : bm < W.heap.size := (Array.getElem?_eq_some_iff.1 hm).1
  replace hm := Lib.hid hm
  replace h0 := Lib.hid h0
  refine callsIn_of_wp Tryz.func68 rfl trivial ?_ rfl
  simp only [Tryz.ntmps68, List.size_toArray, List.length_cons, List.length_nil, Nat.reduceAdd, Nat.reduceSub, Array.replicate_succ, Array.replicate_zero, List.push_toArray, List.append_toArray, List.nil_append, List.cons_append]
  gi_wp2
  obtain ⟨it, hit⟩ : ∃ it, it = W.heap.size := ⟨_, rfl⟩
  have hb1 : Below W.heap.size W (W.alloc (itO bm l.length [])) := xalloc (xrefl W) _
  have hi1 : (W.alloc (itO bm l.length [])).heap[it]? = some (itO bm l.length []) := by rw [hit]; exact World.alloc_heap_new W _
  have hm1 : (W.alloc (itO bm l.length [])).heap[bm]? = some (mapI .u8 l) := (hb1.block bm hml).trans hm.out
  have hJ1 : J (fun k => k = it) [] (W.alloc (itO bm l.length [])) := hJ.out _ _ _ W _ h0.out (fun k h => h.elim) (Below.only hb1) (fun k e => .inr (by omega))
  have hle := hb1.size
  rw [← hit]
  generalize W.alloc (itO bm l.length []) = W1 at hi1 hm1 hJ1 hle ⊢
  replace hi1 := Lib.hid hi1
  replace hm1 := Lib.hid hm1
  replace hJ1 := Lib.hid hJ1
  clear hb1 hrg
  have hbi : ¬ bm = it := by omega
  replace hit := Lib.hid hit
  gi_loopw [3] (fun _ wr => ∃ seen : List Nat, Hid (seen.Nodup ∧ ∀ j ∈ seen, j < l.length) ∧ Hid (wr.heap[it]? = some (itO bm l.length seen)) ∧ Hid (wr.heap[bm]? = some (mapI .u8 l)) ∧ Hid (J (fun k => k = it) (cbkeyAt l seen) wr)) (fun _ wr => l.length - seenAt wr it)
  case atStart => exact ⟨[], Lib.hid ⟨List.nodup_nil, fun j h => by cases h⟩, hi1, hm1, hJ1⟩
  case round =>
    clear hi1 hm1 hJ1
    obtain ⟨seen, hs, hi, hm1, hJs⟩ := hrel
    rcases next_mapI (P := Tryz.prog) 0 hi.out hm1.out with ⟨hall, hrun⟩ | ⟨j, hj, hns, W2, hrun, hon, hi2⟩
    · have hrun' : ∀ ty, (Instr.next (.pointer (some ⟨it, 0, none⟩)) false ty).run Tryz.prog wr = _ := fun ty => hrun
      clear hrun
      replace hall := Lib.hid hall
      gi_wp2
      go_end0
      have hp := perm_seen hs.out.1 hs.out.2 hall.out
      refine ⟨⟨_, rfl⟩, .inl ⟨_, _, ?_, fun k e => by have := hit.out; omega, hJs.out⟩⟩
      have := hp.map fun j => (l[j]?.map (·.1)).getD 0
      have e := cbkeyAt_all l
      unfold cbkeyAt at e ⊢
      rwa [e] at this
    · have hrun' : ∀ ty, (Instr.next (.pointer (some ⟨it, 0, none⟩)) false ty).run Tryz.prog wr = _ := fun ty => hrun
      have hm2 : W2.heap[bm]? = some (mapI .u8 l) := (hon.same bm (Array.getElem?_eq_some_iff.1 hm1.out).1 hbi).trans hm1.out
      have hen := entry_mapI (P := Tryz.prog) hj hi2 hm2
      have hJ2 : J (fun k => k = it) (cbkeyAt l seen) W2 := hJ.out _ _ _ wr W2 hJs.out (fun k e => by have := hit.out; omega) hon (fun k e => .inl e)
      have hlt := seen_lt hs.out.1 hs.out.2 hj hns
      have hlen : (cbkeyAt l seen).length < l.length := by unfold cbkeyAt; rw [List.length_map]; exact hlt
      have hsn : Hid ((seen ++ [j]).Nodup ∧ ∀ i ∈ seen ++ [j], i < l.length) := Lib.hid ⟨by rw [List.nodup_append]; exact ⟨hs.out.1, by simp, fun a ha b hb e => hns (by simp at hb; subst hb; rw [← e]; exact ha)⟩, fun i hi => by
        rcases List.mem_append.1 hi with h | h
        · exact hs.out.2 i h
        · simp at h; omega⟩
      have hsnoc := cbkeyAt_snoc l seen j hj
      have h2l : it < W2.heap.size := (Array.getElem?_eq_some_iff.1 hi2).1
      obtain ⟨fnc, tmps, assign, body, hy, hR⟩ := hY.out (fun k => k = it) (cbkeyAt l seen) l[j].1 W2 (fun k e => by have := hit.out; omega) hJ2 hlen ⟨seen ++ [j], hsn.out.1, hsn.out.2, hsnoc.symm⟩
      have hsl : seenAt wr it = seen.length := seenAt_eq hi.out
      rw [← hsnoc] at hR
      clear hrun hJ2 hsnoc hlen
      generalize l[j].1 = key at *
      replace hi2 := Lib.hid hi2
      replace hm2 := Lib.hid hm2
      replace hns := Lib.hid hns
      replace hR := Lib.hid hR
      replace hsl := Lib.hid hsl
      clear hon hJs hs
      gi_wp2
      refine ⟨rfl, hR.out.mono ?_⟩
      rintro e W3 (⟨rfl, hJ3, hk3⟩ | ⟨rfl, hJx3, hk3⟩)
      · have hi3 := Lib.hid ((hk3.same it (Array.getElem?_eq_some_iff.1 hi2.out).1 (.inl rfl)).trans hi2.out)
        have hm3 := Lib.hid ((hk3.same bm (Array.getElem?_eq_some_iff.1 hm2.out).1 (.inr rfl)).trans hm2.out)
        replace hJ3 := Lib.hid hJ3
        have hlt3 : l.length - seenAt W3 it < l.length - seenAt wr it := by
          rw [hsl.out, seenAt_eq hi3.out, List.length_append]; simp; omega
        replace hlt3 := Lib.hid hlt3
        clear hk3
        gi_wp2
        exact ⟨⟨seen ++ [j], hsn, hi3, hm3, hJ3⟩, hlt3.out⟩
      · gi_wp2
        refine bodyPost_ret (results_none rfl _ _ _) rfl ?_
        exact ⟨⟨_, rfl⟩, .inr ⟨_, _, ⟨seen ++ [j], hsn.out.1, hsn.out.2, rfl⟩, fun k e => by have := hit.out; omega, hJx3⟩⟩
end Go.Proofs.YtbicfaiabpcgfaaGreatDoor
namespace Go.Proofs.YtbicfaiabpcgfaaGreatDoor
open Go.RowKit

theorem ai_only {O : Nat → Prop} {w w' : World} {base : Nat} {e : TypeId} {v : Value} {n : Nat} {xs : List Value} (h : w.ownsRow base e 1 v n xs) (ho : Only O w w') (hv : ∀ g, v.ownBlock = some g → ¬ O g) : w'.ownsRow base e 1 v n xs := by
  refine ⟨h.1, ?_⟩
  rcases h.2 with hn | ⟨g, cap, cur, rfl, hb, hg, r⟩
  · exact .inl hn
  · exact .inr ⟨g, cap, cur, rfl, hb, (ho.same g (Array.getElem?_eq_some_iff.1 hg).1 (hv g rfl)).trans hg, r⟩
theorem ai_lt {w : World} {base : Nat} {e : TypeId} {v : Value} {n : Nat} {xs : List Value} (h : w.ownsRow base e 1 v n xs) {g : Nat} (hv : v.ownBlock = some g) : base ≤ g ∧ g < w.heap.size := by
  rcases h.2 with ⟨rfl, -⟩ | ⟨g', cap, cur, rfl, hb, hg, r⟩
  · cases hv
  · obtain rfl : g' = g := Option.some.inj hv
    exact ⟨hb, (Array.getElem?_eq_some_iff.1 hg).1⟩
/-- The box in block B (of slices of type ST) holds a slice of the call's own with what has come; its block is none of the iterator's. -/
def AI {α : Type} (ST ET : TypeId) (enc : α → Value) (B : Nat) (w : World) (O : Nat → Prop) (pre : List α) (W : World) : Prop :=
  ∃ v, W.heap[B]? = some (.cells #[v] ST) ∧ W.ownsRow B ET 1 v pre.length (pre.map enc) ∧ (∀ g, v.ownBlock = some g → ¬ O g) ∧ Below w.heap.size w W
section
variable {α : Type} {ST ET : TypeId} {enc : α → Value} {B : Nat} {w W W' : World} {O O' : Nat → Prop} {pre : List α}
theorem ai_stable (M : Nat) (hB : B < M) (hw : w.heap.size ≤ M) : Stable M (AI ST ET enc B w) := by
  rintro O O' s W W' ⟨v, h1, h2, h3, h4⟩ hO hon hO'
  have n1 : ¬ O B := fun h => by have := hO _ h; omega
  refine ⟨v, (hon.same _ (Array.getElem?_eq_some_iff.1 h1).1 n1).trans h1, ai_only h2 hon h3, fun g hg h => ?_, hon.below h4 h4.size (fun i h => by have := hO i h; omega)⟩
  rcases hO' g h with h | h
  · exact h3 g hg h
  · have := (ai_lt h2 hg).2; omega
/-- One more has been appended, and stored back. -/
theorem ai_next {Rd : Nat → Prop} {W2 W3 W5 : World} (hT : ET ≠ ST) (m : α) {v V5 : Value} (hRd : ∀ k, Rd k → k < B) (hwB : w.heap.size ≤ B) (o2 : W2.ownsRow B ET 1 v pre.length (pre.map enc)) (hb : Below W2.heap.size W2 W3) (b3 : Below w.heap.size w W3) (hwl : B < W2.heap.size) (hg5 : W3.grownBy W5 v.ownBlock)
    (c5 : W5.heap[B]? = some (.cells #[v] ST)) (o5 : W5.ownsRow B ET 1 V5 (pre.length + 1) (pre.map enc ++ [enc m])) (hvb : V5.ownBlock = v.ownBlock ∨ ∀ k, V5.ownBlock = some k → W3.heap.size ≤ k)
    (h3 : ∀ g, v.ownBlock = some g → ¬ O g) (hO : ∀ k, O k → B < k ∧ k < W2.heap.size) :
    AI ST ET enc B w O (pre ++ [m]) (W5.setCell ⟨B, 0, none⟩ V5) ∧ Keep (fun k => O k ∨ Rd k) W2 (W5.setCell ⟨B, 0, none⟩ V5) := by
  have cs := boxed_set (u := V5) c5
  have hon : Only (· = B) W5 (W5.setCell ⟨B, 0, none⟩ V5) := (Only.refl _ _).setCell _ _ rfl
  have hne := boxed_ne o5 c5 hT
  refine ⟨⟨V5, cs, ?_, ?_, ?_⟩, ?_⟩
  · rw [List.length_append, List.map_append]
    exact ai_only o5 hon fun g hg e => hne (by rw [hg, e])
  · intro g hg ho
    rcases hvb with e | e
    · exact h3 g (by rw [← e]; exact hg) ho
    · have := e g hg; have := (hO g ho).2; have := hb.size; omega
  · refine hon.below (b3.grown hg5 b3.size fun j hj => ?_) (Nat.le_trans b3.size hg5.size) (by rintro i rfl; omega)
    have := (ai_lt o2 hj).1
    omega
  · refine ⟨Nat.le_trans hb.size (Nat.le_trans hg5.size hon.size), fun k hk h => ?_⟩
    have hkw : k ≠ B := by
      rcases h with h | h
      · have := (hO k h).1; omega
      · have := hRd k h; omega
    rw [hon.same k (Nat.lt_of_lt_of_le hk (Nat.le_trans hb.size hg5.size)) hkw, hg5.block k (Nat.lt_of_lt_of_le hk hb.size) ?_, hb.block k hk]
    intro e
    rcases h with h | h
    · exact h3 k e.symm h
    · have := (ai_lt o2 e.symm).1; have := hRd k h; omega
end
end Go.Proofs.YtbicfaiabpcgfaaGreatDoor
namespace Go.Proofs.YtbicfaiabpcgfaaGreatDoor
open Go.RowKit

/-- A row at the head of a block. -/
def SrtAt (w : World) (b : Nat) (T : TypeId) (rest : List Value) (zs : List Int) : Prop := BlkG w b T (zs.map (Value.int .u8) ++ rest)
/-- The block holds the same bag; nothing else has turned. -/
def SrtP (b : Nat) (T : TypeId) (rest : List Value) (zs : List Int) (w w' : World) : Prop := ∃ ys : List Int, ys.Perm zs ∧ SrtAt w' b T rest ys ∧ Only (· = b) w w'
section
variable {w w' : World} {b : Nat} {T : TypeId} {rest : List Value} {zs ys : List Int}
theorem SrtAt.get (h : SrtAt w b T rest zs) {t : Nat} (ht : t < zs.length) : w.cell? ⟨b, t, none⟩ = some (.int .u8 (zs.getD t 0)) := by
  have := BlkG.cell h t (by simp; omega)
  rw [this, List.getElem_append_left (by simpa using ht)]
  simp [ht]
theorem SrtAt.free (h : SrtAt w b T rest zs) (t : Nat) : w.frozen? ⟨b, t, none⟩ = false := BlkG.free h t
theorem SrtAt.drewN (h : SrtAt w b T rest zs) (n : Nat) : SrtAt (w.drewN n) b T rest zs := h
theorem SrtAt.set (h : SrtAt w b T rest zs) {j : Nat} (hj : j < zs.length) (x : Int) : SrtAt (w.setCell ⟨b, j, none⟩ (.int .u8 x)) b T rest (zs.set j x) := by
  have := BlkG.set h j (.int .u8 x)
  rw [List.set_append_left _ _ (by simpa using hj), ← List.map_set] at this
  exact this
theorem SrtAt.swap (h : SrtAt w b T rest zs) {j k : Nat} (hj : j < zs.length) (hk : k < zs.length) :
    ∃ ys, ys.Perm zs ∧ SrtAt ((w.setCell ⟨b, j, none⟩ (.int .u8 (zs.getD k 0))).setCell ⟨b, k, none⟩ (.int .u8 (zs.getD j 0))) b T rest ys := by
  refine ⟨(zs.set j (zs.getD k 0)).set k (zs.getD j 0), ?_, (h.set hj _).set (by simpa using hk) _⟩
  have := @List.set_set_perm _ zs j k hj hk
  simpa [hj, hk] using this
theorem SrtP.refl (h : SrtAt w b T rest zs) : SrtP b T rest zs w w := ⟨zs, .refl _, h, Only.refl _ _⟩
theorem SrtP.drewN (h : SrtP b T rest zs w w') (n : Nat) : SrtP b T rest zs w (w'.drewN n) := by
  obtain ⟨ys, h1, h2, h3⟩ := h
  exact ⟨ys, h1, h2.drewN n, ⟨h3.os, h3.tape, h3.output, h3.size, h3.same⟩⟩
/-- What a round has at hand: the cells by a function. -/
theorem SrtP.open (h : SrtP b T rest zs w w') {off : Nat} (ho : off = 0) : ∃ G : Nat → Int, (∀ t, t < zs.length → w'.cell? ⟨b, off + t, none⟩ = some (.int .u8 (G t))) ∧ (∀ t, t < zs.length → w'.frozen? ⟨b, off + t, none⟩ = false) ∧
    ∀ n j k, j < zs.length → k < zs.length → SrtP b T rest zs w (((w'.drewN n).setCell ⟨b, off + j, none⟩ (.int .u8 (G k))).setCell ⟨b, off + k, none⟩ (.int .u8 (G j))) := by
  subst ho
  obtain ⟨ys, h1, h2, h3⟩ := h
  have hl := h1.length_eq
  refine ⟨fun t => ys.getD t 0, fun t ht => ?_, fun t ht => ?_, fun n j k hj hk => ?_⟩
  · rw [Nat.zero_add]; exact h2.get (by omega)
  · rw [Nat.zero_add]; exact h2.free t
  · rw [Nat.zero_add, Nat.zero_add]
    obtain ⟨xs, e1, e2⟩ := (h2.drewN n).swap (j := j) (k := k) (by omega) (by omega)
    exact ⟨xs, e1.trans h1, e2, ((⟨h3.os, h3.tape, h3.output, h3.size, h3.same⟩ : Only (· = b) w (w'.drewN n)).setCell _ _ rfl).setCell _ _ rfl⟩
end
theorem isNaN_any (x : Int) (w : World) : Calls Tryz.prog 128 #[.int .u8 x] w fun e w' => e = .returned (.bool false) ∧ w' = w := by
  go_enter Tryz.func128, Tryz.ntmps128
  go_wp2
  go_ret
  simp
theorem less_any (x y : Int) (w : World) : Calls Tryz.prog 108 #[.int .u8 x, .int .u8 y] w fun e w' => e = .returned (.bool (decide (x < y))) ∧ w' = w := by
  have hn := Lib.hid isNaN_any
  go_enter Tryz.func108, Tryz.ntmps108
  go_wp2_with (go_at_call 128; refine (hn.out _ _).mono ?_; rintro e w1 ⟨rfl, rfl⟩)
  go_ret
  simp
set_option maxRecDepth 100000 in
set_option maxHeartbeats 8000000 in
theorem insertion_any (b cap off a n : Nat) (T : TypeId) (rest : List Value) (zs : List Int) (w : World) (hS : SrtAt w b T rest zs) (hoff : off = 0) (han : a ≤ n) (hn : n ≤ zs.length) (hl : zs.length ≤ 1000000) :
    Calls Tryz.prog 102 #[.slice (some ⟨b, off, none⟩) zs.length cap, .int .i64 a, .int .i64 n] w fun e w' => e = .returned (.tuple #[]) ∧ SrtP b T rest zs w w' := by
  have h0 := Lib.hid (SrtP.refl hS)
  replace hoff := Lib.hid hoff
  clear hS
  go_enter Tryz.func102, Tryz.ntmps102
  go_wp2
  go_loopw [6] (fun vi wr => ∃ i : Nat, vi = .int .i64 i ∧ a < i ∧ i ≤ n + 1 ∧ Hid (SrtP b T rest zs w wr)) (fun vi _ => n + 1 - (intOf vi).toNat)
  case atStart => exact ⟨a + 1, by go_num, by omega, by omega, h0⟩
  case round =>
    clear h0
    obtain ⟨i, rfl, hai, hin, hP⟩ := hrel
    go_wp2
    · go_loopw [7] (fun vj wr2 => ∃ j : Nat, vj = .int .i64 j ∧ a ≤ j ∧ j ≤ i ∧ Hid (SrtP b T rest zs w wr2)) (fun vj _ => (intOf vj).toNat)
      case atStart => exact ⟨i, rfl, by omega, Nat.le_refl _, hP⟩
      case round =>
        clear hP
        obtain ⟨j, rfl, haj, hji, hP⟩ := hrel
        have hlt : i < n := by assumption
        obtain ⟨G, hcw, hfw, hsw⟩ := hP.out.open hoff.out
        replace hsw := Lib.hid hsw
        go_wp2
        by_cases hja : a < j
        · go_quiet (first | (go_at_call 108; refine Calls.quiet_of_same (less_any _ _ _)))
          go_wp2
          · go_region
            all_goals go_wp2
            go_roundw
            case rel => exact ⟨j - 1, by congr 1; omega, by omega, by omega, Lib.hid (hsw.out _ j (j - 1) (by omega) (by omega))⟩
            case measure => simp [intOf]; omega
          · go_roundw
            case rel => exact ⟨i + 1, by go_num, by omega, by omega, Lib.hid (hP.out.drewN _)⟩
            case measure => simp [intOf]; omega
        · go_quiet (first | (go_at_call 108; refine Calls.quiet_of_same (less_any _ _ _)))
          go_wp2
          go_roundw
          case rel => exact ⟨i + 1, by go_num, by omega, by omega, Lib.hid (hP.out.drewN _)⟩
          case measure => simp [intOf]; omega
    · go_end0
      exact ⟨rfl, hP.out⟩
end Go.Proofs.YtbicfaiabpcgfaaGreatDoor
namespace Go.Proofs.YtbicfaiabpcgfaaGreatDoor
open Go.RowKit

set_option maxRecDepth 100000 in
set_option maxHeartbeats 8000000 in
theorem reverse_any (b cap off a n : Nat) (T : TypeId) (rest : List Value) (zs : List Int) (w : World) (hS : SrtAt w b T rest zs) (hoff : off = 0) (hn : n ≤ zs.length) (hl : zs.length ≤ 1000000) (ha : a ≤ zs.length) :
    Calls Tryz.prog 106 #[.slice (some ⟨b, off, none⟩) zs.length cap, .int .i64 a, .int .i64 n] w fun e w' => e = .returned (.tuple #[]) ∧ SrtP b T rest zs w w' := by
  have h0 := Lib.hid (SrtP.refl hS)
  replace hoff := Lib.hid hoff
  clear hS
  go_enter Tryz.func106, Tryz.ntmps106
  go_wp2
  go_loopw [6, 7] (fun vi vj wr => ∃ (i : Nat) (j : Int), vi = .int .i64 i ∧ vj = .int .i64 j ∧ i ≤ zs.length ∧ -1 ≤ j ∧ j < zs.length ∧ Hid (SrtP b T rest zs w wr)) (fun vi _ _ => zs.length - (intOf vi).toNat)
  case atStart => exact ⟨a, (n : Int) - 1, rfl, rfl, ha, by omega, by omega, h0⟩
  case round =>
    clear h0
    obtain ⟨i, j, rfl, rfl, hin, hj1, hj2, hP⟩ := hrel
    by_cases hij : (i : Int) < j
    · obtain ⟨k, rfl⟩ : ∃ k : Nat, j = k := ⟨j.toNat, by omega⟩
      obtain ⟨G, hcw, hfw, hsw⟩ := hP.out.open hoff.out
      replace hsw := Lib.hid hsw
      go_wp2
      go_region
      all_goals go_wp2
      go_roundw
      case rel => exact ⟨i + 1, (k : Int) - 1, by go_num, rfl, by omega, by omega, by omega, Lib.hid (hsw.out _ i k (by omega) (by omega))⟩
      case measure => simp [intOf]; omega
    · go_wp2
      go_end0
      exact ⟨rfl, hP.out⟩
set_option maxRecDepth 100000 in
set_option maxHeartbeats 8000000 in
theorem sift_any (b cap off lo hi first : Nat) (T : TypeId) (rest : List Value) (zs : List Int) (w : World) (hS : SrtAt w b T rest zs) (hoff : off = 0) (hn : first + hi ≤ zs.length) (hlo : lo ≤ zs.length) (hl : zs.length ≤ 1000000) :
    Calls Tryz.prog 123 #[.slice (some ⟨b, off, none⟩) zs.length cap, .int .i64 lo, .int .i64 hi, .int .i64 first] w fun e w' => e = .returned (.tuple #[]) ∧ SrtP b T rest zs w w' := by
  have h0 := Lib.hid (SrtP.refl hS)
  replace hoff := Lib.hid hoff
  clear hS
  go_enter Tryz.func123, Tryz.ntmps123
  go_wp2
  go_loopw [8] (fun vi wr => ∃ (r : Nat), vi = .int .i64 r ∧ r ≤ zs.length ∧ Hid (SrtP b T rest zs w wr)) (fun vi _ => zs.length - (intOf vi).toNat)
  case atStart => exact ⟨lo, rfl, hlo, h0⟩
  case round =>
    clear h0
    obtain ⟨r, rfl, hrl, hP⟩ := hrel
    obtain ⟨G, hcw, hfw, hsw⟩ := hP.out.open hoff.out
    replace hsw := Lib.hid hsw
    by_cases h1 : 2 * r + 1 < hi
    · obtain ⟨c, hc⟩ : ∃ c : Nat, c = 2 * r + 1 := ⟨_, rfl⟩
      obtain ⟨c2, hc2⟩ : ∃ c2 : Nat, c2 = c + 1 := ⟨_, rfl⟩
      obtain ⟨p, hp⟩ : ∃ p : Nat, p = first + c := ⟨_, rfl⟩
      obtain ⟨p2, hp2⟩ : ∃ p2 : Nat, p2 = first + c2 := ⟨_, rfl⟩
      obtain ⟨pr, hpr⟩ : ∃ pr : Nat, pr = first + r := ⟨_, rfl⟩
      have hcI : 2 * (r : Int) + 1 = (c : Int) := by omega
      have hchi : c < hi := by omega
      have hcI2 : (c : Int) < hi := by omega
      have hw2 : IntKind.i64.wrap ((c : Int) + 1) = (c2 : Int) := by simp [IntKind.wrap, IntKind.bits, IntKind.signed]; omega
      have hw2' : (c : Int) + 1 = (c2 : Int) := by omega
      have hwp : IntKind.i64.wrap ((first : Int) + (c : Int)) = (p : Int) := by simp [IntKind.wrap, IntKind.bits, IntKind.signed]; omega
      have hwp2 : IntKind.i64.wrap ((p : Int) + 1) = (p2 : Int) := by simp [IntKind.wrap, IntKind.bits, IntKind.signed]; omega
      have hwp3 : IntKind.i64.wrap ((first : Int) + (c2 : Int)) = (p2 : Int) := by simp [IntKind.wrap, IntKind.bits, IntKind.signed]; omega
      have hwr : IntKind.i64.wrap ((first : Int) + (r : Int)) = (pr : Int) := by simp [IntKind.wrap, IntKind.bits, IntKind.signed]; omega
      have hpl : p < zs.length := by omega
      have hprl : pr < zs.length := by omega
      have hp2l : c2 < hi → p2 < zs.length := fun h => by omega
      have hprp : pr < p := by omega
      have hprp2 : pr < p2 := by omega
      have hrc : Hid (r < c) := Lib.hid (by omega)
      have hrc2 : Hid (r < c2) := Lib.hid (by omega)
      have hc2l : Hid (c2 ≤ hi) := Lib.hid (by omega)
      clear hc hc2 hp hp2 hpr
      go_wp2
      by_cases h2 : (c2 : Int) < hi
      · have hp2l2 : p2 < zs.length := hp2l (by omega)
        clear hp2l
        go_quiet (first | (go_at_call 108; refine Calls.quiet_of_same (less_any _ _ _)))
        go_wp2
        · have hP1 := Lib.hid (hP.out.drewN nq)
          clear hcw hfw hsw hP
          generalize wr.drewN nq = w1 at *
          obtain ⟨G2, hcw, hfw, hsw⟩ := hP1.out.open hoff.out
          replace hsw := Lib.hid hsw
          go_quiet (first | (go_at_call 108; refine Calls.quiet_of_same (less_any _ _ _)))
          go_wp2
          · refine bodyPost_ret (results_none rfl _ _ _) rfl ?_
            exact ⟨rfl, hP1.out.drewN _⟩
          · go_region
            all_goals go_wp2
            go_roundw
            case rel => exact ⟨c2, rfl, by have := hc2l.out; omega, Lib.hid (hsw.out _ pr p2 hprl hp2l2)⟩
            case measure => have := hrc2.out; have := hc2l.out; simp [intOf]; omega
        · have hP1 := Lib.hid (hP.out.drewN nq)
          clear hcw hfw hsw hP
          generalize wr.drewN nq = w1 at *
          obtain ⟨G2, hcw, hfw, hsw⟩ := hP1.out.open hoff.out
          replace hsw := Lib.hid hsw
          go_quiet (first | (go_at_call 108; refine Calls.quiet_of_same (less_any _ _ _)))
          go_wp2
          · refine bodyPost_ret (results_none rfl _ _ _) rfl ?_
            exact ⟨rfl, hP1.out.drewN _⟩
          · go_region
            all_goals go_wp2
            go_roundw
            case rel => exact ⟨c, rfl, by omega, Lib.hid (hsw.out _ pr p hprl hpl)⟩
            case measure => have := hrc.out; simp [intOf]; omega
      · clear hp2l
        go_quiet (first | (go_at_call 108; refine Calls.quiet_of_same (less_any _ _ _)))
        go_wp2
        have hP1 := Lib.hid (hP.out.drewN nq)
        clear hcw hfw hsw hP
        generalize wr.drewN nq = w1 at *
        obtain ⟨G2, hcw, hfw, hsw⟩ := hP1.out.open hoff.out
        replace hsw := Lib.hid hsw
        go_quiet (first | (go_at_call 108; refine Calls.quiet_of_same (less_any _ _ _)))
        go_wp2
        · refine bodyPost_ret (results_none rfl _ _ _) rfl ?_
          exact ⟨rfl, hP1.out.drewN _⟩
        · go_region
          all_goals go_wp2
          go_roundw
          case rel => exact ⟨c, rfl, by omega, Lib.hid (hsw.out _ pr p hprl hpl)⟩
          case measure => have := hrc.out; simp [intOf]; omega
    · go_wp2
      go_end0
      exact ⟨rfl, hP.out⟩
end Go.Proofs.YtbicfaiabpcgfaaGreatDoor
namespace Go.Proofs.YtbicfaiabpcgfaaGreatDoor
open Go.RowKit

section
variable {w w' : World} {b : Nat} {T : TypeId} {rest : List Value} {zs : List Int}
theorem SrtP.lift {f : FuncId} {Q : Value → Prop} (h : SrtP b T rest zs w w') (cap off : Nat) (args : Array Value)
    (hc : ∀ ys : List Int, ys.length = zs.length → SrtAt w' b T rest ys → Calls Tryz.prog f (#[.slice (some ⟨b, off, none⟩) ys.length cap] ++ args) w' fun e w2 => (∃ v, e = .returned v ∧ Q v) ∧ SrtP b T rest ys w' w2) :
    Calls Tryz.prog f (#[.slice (some ⟨b, off, none⟩) zs.length cap] ++ args) w' fun e w2 => (∃ v, e = .returned v ∧ Q v) ∧ SrtP b T rest zs w w2 := by
  obtain ⟨ys, h1, h2, h3⟩ := h
  have := hc ys h1.length_eq h2
  rw [h1.length_eq] at this
  refine this.mono ?_
  rintro e w2 ⟨hv, xs, k1, k2, k3⟩
  exact ⟨hv, xs, k1.trans h1, k2, h3.trans k3⟩
theorem SrtP.lift0 {f : FuncId} (h : SrtP b T rest zs w w') (cap off : Nat) (args : Array Value)
    (hc : ∀ ys : List Int, ys.length = zs.length → SrtAt w' b T rest ys → Calls Tryz.prog f (#[.slice (some ⟨b, off, none⟩) ys.length cap] ++ args) w' fun e w2 => e = .returned (.tuple #[]) ∧ SrtP b T rest ys w' w2) :
    Calls Tryz.prog f (#[.slice (some ⟨b, off, none⟩) zs.length cap] ++ args) w' fun e w2 => e = .returned (.tuple #[]) ∧ SrtP b T rest zs w w2 := by
  obtain ⟨ys, h1, h2, h3⟩ := h
  have := hc ys h1.length_eq h2
  rw [h1.length_eq] at this
  refine this.mono ?_
  rintro e w2 ⟨hv, xs, k1, k2, k3⟩
  exact ⟨hv, xs, k1.trans h1, k2, h3.trans k3⟩
theorem SrtP.sift (h : SrtP b T rest zs w w') (cap off lo hi first : Nat) (hoff : off = 0) (hn : first + hi ≤ zs.length) (hlo : lo ≤ zs.length) (hl : zs.length ≤ 1000000) :
    Calls Tryz.prog 123 #[.slice (some ⟨b, off, none⟩) zs.length cap, .int .i64 lo, .int .i64 hi, .int .i64 first] w' fun e w2 => e = .returned (.tuple #[]) ∧ SrtP b T rest zs w w2 :=
  h.lift0 cap off #[.int .i64 lo, .int .i64 hi, .int .i64 first] fun ys hy hS => sift_any b cap off lo hi first T rest ys w' hS hoff (by omega) (by omega) (by omega)
theorem SrtP.insertion (h : SrtP b T rest zs w w') (cap off a n : Nat) (hoff : off = 0) (han : a ≤ n) (hn : n ≤ zs.length) (hl : zs.length ≤ 1000000) :
    Calls Tryz.prog 102 #[.slice (some ⟨b, off, none⟩) zs.length cap, .int .i64 a, .int .i64 n] w' fun e w2 => e = .returned (.tuple #[]) ∧ SrtP b T rest zs w w2 :=
  h.lift0 cap off #[.int .i64 a, .int .i64 n] fun ys hy hS => insertion_any b cap off a n T rest ys w' hS hoff (by omega) (by omega) (by omega)
theorem SrtP.reverse (h : SrtP b T rest zs w w') (cap off a n : Nat) (hoff : off = 0) (hn : n ≤ zs.length) (ha : a ≤ zs.length) (hl : zs.length ≤ 1000000) :
    Calls Tryz.prog 106 #[.slice (some ⟨b, off, none⟩) zs.length cap, .int .i64 a, .int .i64 n] w' fun e w2 => e = .returned (.tuple #[]) ∧ SrtP b T rest zs w w2 :=
  h.lift0 cap off #[.int .i64 a, .int .i64 n] fun ys hy hS => reverse_any b cap off a n T rest ys w' hS hoff (by omega) (by omega) (by omega)
end
set_option maxRecDepth 100000 in
set_option maxHeartbeats 8000000 in
theorem heap_any (b cap off a n : Nat) (T : TypeId) (rest : List Value) (zs : List Int) (w : World) (hS : SrtAt w b T rest zs) (hoff : off = 0) (han : a ≤ n) (hn : n ≤ zs.length) (hl : zs.length ≤ 1000000) :
    Calls Tryz.prog 103 #[.slice (some ⟨b, off, none⟩) zs.length cap, .int .i64 a, .int .i64 n] w fun e w' => e = .returned (.tuple #[]) ∧ SrtP b T rest zs w w' := by
  have h0 := Lib.hid (SrtP.refl hS)
  obtain ⟨hi, hhi⟩ : ∃ hi : Nat, hi = n - a := ⟨_, rfl⟩
  have hhI : (n : Int) - a = (hi : Int) := by omega
  have hah : a + hi ≤ zs.length := by omega
  obtain ⟨q, hq, hq1, hq2⟩ : ∃ q : Int, Int.tdiv ((hi : Int) - 1) 2 = q ∧ -1 ≤ q ∧ q ≤ hi := by
    refine ⟨_, rfl, ?_⟩
    rcases Nat.eq_zero_or_pos hi with h | h
    · subst h; decide
    · rw [Int.tdiv_eq_ediv_of_nonneg (by omega)]; omega
  replace hoff := Lib.hid hoff
  replace hhi := Lib.hid hhi
  clear hS
  go_enter Tryz.func103, Tryz.ntmps103
  go_wp2
  replace hq := Lib.hid hq
  go_loopw [9] (fun vi wr => ∃ i : Int, vi = .int .i64 i ∧ -1 ≤ i ∧ i ≤ hi ∧ Hid (SrtP b T rest zs w wr)) (fun vi _ => (intOf vi + 1).toNat)
  case atStart => exact ⟨q, rfl, hq1, hq2, h0⟩
  case round =>
    clear h0
    obtain ⟨i, rfl, hi1, hi2, hP⟩ := hrel
    by_cases hneg : 0 ≤ i
    · obtain ⟨k, rfl⟩ : ∃ k : Nat, i = k := ⟨i.toNat, by omega⟩
      have hsf := Lib.hid (hP.out.sift cap off k hi a hoff.out hah (by omega) hl)
      go_wp2_with (go_at_call 123; refine hsf.out.mono ?_; rintro e w1 ⟨rfl, hP1⟩; replace hP1 := Lib.hid hP1)
      go_roundw
      case rel => exact ⟨(k : Int) - 1, rfl, by omega, by omega, hP1⟩
      case measure => simp [intOf] <;> omega
    · go_wp2
      go_loopw [10] (fun vi wr => ∃ i : Int, vi = .int .i64 i ∧ -1 ≤ i ∧ i < hi ∧ Hid (SrtP b T rest zs w wr)) (fun vi _ => (intOf vi + 1).toNat)
      case atStart => exact ⟨(hi : Int) - 1, rfl, by omega, by omega, hP⟩
      case round =>
        clear hP hneg
        obtain ⟨i, rfl, hi1, hi2, hP⟩ := hrel
        by_cases hneg : 0 ≤ i
        · obtain ⟨k, rfl⟩ : ∃ k : Nat, i = k := ⟨i.toNat, by omega⟩
          obtain ⟨p, hp⟩ : ∃ p : Nat, p = a + k := ⟨_, rfl⟩
          have hwp : IntKind.i64.wrap ((a : Int) + (k : Int)) = (p : Int) := by simp [IntKind.wrap, IntKind.bits, IntKind.signed]; omega
          have hpl : p < zs.length := by omega
          have hal : a < zs.length := by omega
          obtain ⟨G, hcw, hfw, hsw⟩ := hP.out.open hoff.out
          replace hsw := Lib.hid hsw
          have hs2 := Lib.hid fun W (hW : SrtP b T rest zs w W) => (show Calls Tryz.prog 123 #[.slice (some ⟨b, off, none⟩) zs.length cap, .int .i64 0, .int .i64 k, .int .i64 a] W fun e w2 => e = .returned (.tuple #[]) ∧ SrtP b T rest zs w w2 from hW.sift cap off 0 k a hoff.out (by omega) (by omega) hl)
          clear hP
          rcases Nat.eq_or_lt_of_le (show a ≤ p by omega) with e | hap
          · subst e
            replace hp := Lib.hid hp
            go_wp2
            go_region
            go_wp2_with (go_at_call 123; refine (hs2.out _ (hsw.out _ a a hal hpl)).mono ?_; rintro e w1 ⟨rfl, hP2⟩; replace hP2 := Lib.hid hP2)
            go_roundw
            case rel => exact ⟨(k : Int) - 1, rfl, by omega, by omega, hP2⟩
            case measure => simp [intOf] <;> omega
          · replace hp := Lib.hid hp
            go_wp2
            go_region
            go_wp2_with (go_at_call 123; refine (hs2.out _ (hsw.out _ a p hal hpl)).mono ?_; rintro e w1 ⟨rfl, hP2⟩; replace hP2 := Lib.hid hP2)
            go_roundw
            case rel => exact ⟨(k : Int) - 1, rfl, by omega, by omega, hP2⟩
            case measure => simp [intOf] <;> omega
        · go_wp2
          go_end0
          exact ⟨rfl, hP.out⟩
end Go.Proofs.YtbicfaiabpcgfaaGreatDoor
