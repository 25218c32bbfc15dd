/- The program's digest (layer 23): roots of the primes. -/
import Derived.Test.YtfieagpidplmoaaShaG
import Derived.Test.YtfieagpidplmoaaShaB
import Derived.Test.YtfieagpidplmoaaGrowV
namespace Go.Proofs.Ytfieagpidplmoaa
open Go.RowKit Go.Shelf
attribute [local go_sem] Oper.semAt_some

def rootI (cube : Bool) (p : Nat) : Int := ((rootF p (if cube then 3 else 2) % 4294967296 : Nat) : Int)
def fillP (m : Nat) (cube : Bool) (pre : List Prm) : List Int := allL m fun j => match pre[j]? with
  | some x => rootI cube x.1
  | none => 0
theorem fillP_nil (m : Nat) (cube : Bool) : fillP m cube [] = List.replicate m 0 := by
  apply List.ext_getElem <;> simp [fillP, allL]
theorem fillP_snoc (m : Nat) (cube : Bool) (pre : List Prm) (x : Prm) : (fillP m cube pre).set pre.length (rootI cube x.1) = fillP m cube (pre ++ [x]) := by
  apply List.ext_getElem
  · simp [fillP, allL]
  · intro i h1 h2
    rw [List.getElem_set]
    simp only [fillP, allL_get]
    by_cases e : pre.length = i
    · subst e; simp
    · rw [if_neg e]
      by_cases c : i < pre.length
      · rw [List.getElem?_append_left c]
      · rw [List.getElem?_eq_none (by omega), List.getElem?_eq_none (by simp; omega)]
theorem fillP_len (m : Nat) (cube : Bool) (pre : List Prm) : (fillP m cube pre).length = m := allL_len _ _

def RootsI (w : World) (g m B : Nat) (T : TypeId) (cube : Bool) (O : Nat → Prop) (pre : List Prm) (W : World) : Prop :=
  pre.length ≤ m ∧ W.cell? ⟨B + 2, 0, none⟩ = some (.int .i64 pre.length) ∧ W.frozen? ⟨B + 2, 0, none⟩ = false ∧ W.cell? ⟨B, 0, none⟩ = some (.slice (some ⟨g, 0, none⟩) m m) ∧ W.cell? ⟨B + 1, 0, none⟩ = some (.bool cube) ∧
    Blk .u32 W g T (fillP m cube pre) ∧ Only (· = g) w W ∧ w.heap.size = B
def RootsX (w : World) (g m : Nat) (T : TypeId) (cube : Bool) (c : Code) (O : Nat → Prop) (pre : List Prm) (W : World) : Prop :=
  c = .ret ∧ ∃ pre' x, pre = pre' ++ [x] ∧ pre'.length = m ∧ Blk .u32 W g T (fillP m cube pre') ∧ Only (· = g) w W
theorem only_more {w W W' : World} {g B : Nat} {O : Nat → Prop} (h : Only (· = g) w W) (ho : Only O W W') (hB : w.heap.size ≤ B) (hO : ∀ k, O k → B ≤ k) : Only (· = g) w W' :=
  ⟨ho.os.trans h.os, ho.tape.trans h.tape, ho.output.trans h.output, Nat.le_trans h.size ho.size, fun k hk hn => (ho.same k (Nat.lt_of_lt_of_le hk h.size) (fun e => by have := hO k e; omega)).trans (h.same k hk hn)⟩
theorem rootsI_stable (w : World) (g m : Nat) (T : TypeId) (cube : Bool) (hg : g < w.heap.size) : Stable (w.heap.size + 3) (RootsI w g m w.heap.size T cube) := by
  rintro O O' s W W' ⟨h1, h2, h3, h4, h5, h6, h7, h8⟩ hO hon -
  have no : ∀ k, k < w.heap.size + 3 → ¬ O k := fun k hk h => by have := hO k h; omega
  exact ⟨h1, hon.cell h2 (no _ (by simp)), hon.frozen h2 h3 (no _ (by simp)), hon.cell h4 (no _ (by simp)), hon.cell h5 (no _ (by simp)), h6.only hon (no _ (by omega)), only_more h7 hon (by omega) hO, h8⟩
theorem rootsX_stable (w : World) (g m : Nat) (T : TypeId) (cube : Bool) (c : Code) (hg : g < w.heap.size) : Stable (w.heap.size + 3) (RootsX w g m T cube c) := by
  rintro O O' s W W' ⟨hc, pre', x, h1, h2, h3, h4⟩ hO hon -
  exact ⟨hc, pre', x, h1, h2, h3.only hon (fun h => by have := hO g h; omega), only_more h4 hon (by omega) hO⟩

def rootsL (m : Nat) (cube : Bool) : List Int := allL m fun j => rootI cube ((pl 314).getD j 0)
theorem pl_same (n j : Nat) (h : j < (pl n).length) (h2 : (pl n).length ≤ 65) : (pl n)[j]? = (pl 314)[j]? := by
  have hn : 2 ≤ n := by
    refine Classical.byContradiction fun hn => ?_
    have : pl n = [] := by
      match n, hn with
      | 0, _ => rfl
      | 1, _ => rfl
      | k + 2, h => omega
    rw [this] at h; simp at h
  by_cases hle : n ≤ 314
  · obtain ⟨k, hk⟩ : ∃ k, 314 = n + k := ⟨314 - n, by omega⟩
    rw [hk]
    obtain ⟨r, hr⟩ := pl_prefix n k hn
    rw [← hr, List.getElem?_append_left h]
  · obtain ⟨k, rfl⟩ : ∃ k, n = 314 + k := ⟨n - 314, by omega⟩
    obtain ⟨r, hr⟩ := pl_prefix 314 k (by omega)
    have h65 : j < (pl 314).length := by rw [pl_big]; omega
    rw [← hr, List.getElem?_append_left h65]
theorem fillP_roots (m : Nat) (cube : Bool) (pre : List Prm) (x : Prm) (n : Nat) (hm : m ≤ 64) (hl : pre.length = m) (hn : valsP (pre ++ [x]) = pl n) : fillP m cube pre = rootsL m cube := allL_congr fun j hj => by
  have hpl : (pl n).length = m + 1 := by rw [← hn]; simp [valsP, hl]
  have h1 := pl_same n j (by omega) (by omega)
  have hjp : j < pre.length := by omega
  rw [← hn] at h1
  simp only [valsP, List.map_append, List.getElem?_append_left (show j < (pre.map (·.1)).length by simpa using hjp), List.getElem?_map, List.getElem?_eq_getElem hjp, Option.map_some] at h1
  rw [List.getElem?_eq_getElem hjp, List.getD_eq_getElem?_getD, ← h1]
  rfl
set_option maxRecDepth 100000 in
set_option maxHeartbeats 1000000 in
theorem roots_any (g m : Nat) (T : TypeId) (cube : Bool) (w : World) (hm : m ≤ 64) (hB : Blk .u32 w g T (List.replicate m 0)) :
    Calls Try.prog 22 #[.slice (some ⟨g, 0, none⟩) m m, .bool cube] w fun e w' => e = .returned (.tuple #[]) ∧ Blk .u32 w' g T (rootsL m cube) ∧ Only (· = g) w w' := by
  have hg := hB.lt
  refine callsIn_wide (n := 0).1 ?_
  refine callsIn_of_wp_marks Try.func22 rfl trivial ?_ rfl
  simp only [Try.ntmps22, List.size_toArray, List.length_cons, List.length_nil, Nat.reduceAdd, Nat.reduceSub, Array.replicate_succ, Array.replicate_zero, List.push_toArray, List.append_toArray, List.nil_append, List.cons_append]
  gi_wp2_with (refine ⟨trivial, rfl, ?_⟩; gi_at_call 37; refine (callsIn_wide.2 (primes_any _)).mono ?_; rintro e w' ⟨rfl, rfl⟩)
  obtain ⟨W0, hW0⟩ : ∃ W0, ((w.alloc (Obj.cells #[.slice (some ⟨g, 0, none⟩) m m] 54)).alloc (Obj.cells #[.bool cube] 4)).alloc (Obj.cells #[.int .i64 0] 3) = W0 := ⟨_, rfl⟩
  have hs0 : W0.heap.size = w.heap.size + 3 := by rw [← hW0]; simp
  have hb0 : Below w.heap.size w W0 := by rw [← hW0]; exact xalloc (xalloc (xalloc (xrefl w) _) _) _
  have h00 : RootsI w g m w.heap.size T cube (fun _ => False) [] W0 := by
    refine ⟨Nat.zero_le _, ?_, ?_, ?_, ?_, by rw [fillP_nil]; exact hB.below hb0, Below.only hb0, rfl⟩ <;> rw [← hW0] <;> simp [go_sem]
  rw [hW0]
  clear hW0 hb0
  refine wp_rangeB (gf := 45) (lb := #[]) rfl (enters_of Try.func45 (by kernel_rfl) rfl) (encs := fun x : Prm => #[.int .u64 (x.1 : Int)]) (Rd := fun _ => False) (S := fun _ => False) (Sp := fun pre => ∃ n, valsP pre = pl n) (N := 65) (inf := true)
    (fun k h => h.elim) (fun W _ => primes_seq W) (fun x => rfl) (RootsI w g m w.heap.size T cube) (RootsX w g m T cube) (by rw [hs0]; exact rootsI_stable w g m T cube hg) (fun c => by rw [hs0]; exact rootsX_stable w g m T cube c hg) h00 (fun _ O pre X h => by have := h.1; omega) ?round ?done ?stop
  case round =>
    rintro l O pre x W hOl hO ⟨h1, h2, h3, h4, h5, h6, h7, -⟩ hlen
    rw [hs0] at hO
    gi_wp2
    refine ⟨?_, fun W2 hon => ?_⟩
    · exact Keep.refl _ _
    have hl3 : w.heap.size + 3 ≤ l := (hO l hOl).1
    have c2 := hon.cell h2 (by simp; omega)
    have f2 := hon.frozen h2 h3 (by simp; omega)
    have c4 := hon.cell h4 (by simp; omega)
    have c5 := hon.cell h5 (by simp; omega)
    have hB2 := h6.only hon (by omega)
    have hon2 := only_more h7 hon (B := w.heap.size + 3) (by omega) (fun k h => by omega)
    have hs2 := hon.size
    clear h2 h3 h4 h5 h6 h7 hon
    replace hO := Lib.hid hO
    by_cases he : pre.length = m
    · have hem : ((pre.length : Int) == (m : Int)) = true := by rw [he]; simp
      gi_wp2
      exact ⟨Keep.refl _ _, rfl, pre, x, rfl, he, hB2, hon2⟩
    · have hem : ((pre.length : Int) == (m : Int)) = false := by simp; omega
      have hlt : (pre.length : Int) < (m : Int) := by omega
      have hltn : pre.length < m := by omega
      gi_wp2
      refine wpIn_region_growL 6 [fixd (.slice (some ⟨g, 0, none⟩) m m), fixd (.int .i64 pre.length), fixd (.int .u64 x.1), fixd (.bool cube), fixd (.int .u32 (rootI cube x.1)), fixd (.pointer (some ⟨g, pre.length, none⟩))] (by kernel_rfl) (by kernel_rfl) (by kernel_rfl) ?_
      simp only [List.take_succ_cons, List.take_zero, List.drop_succ_cons, List.drop_zero]
      try simp only [Act.put, List.setIfInBounds_toArray, List.set_cons_succ, List.set_cons_zero, List.nil_append, List.cons_append]
      refine wpGrowV_fix _ rfl rfl (fun W hb _ => by have c := cbel hb c4; go_simp; first | exact xrefl W | exact ⟨rfl, xrefl W⟩) ?_
      try simp only [Act.put, List.setIfInBounds_toArray, List.set_cons_succ, List.set_cons_zero, List.nil_append, List.cons_append]
      refine wpGrowV_fix _ rfl rfl (fun W hb _ => by have c := cbel hb c2; go_simp; first | exact xrefl W | exact ⟨rfl, xrefl W⟩) ?_
      try simp only [Act.put, List.setIfInBounds_toArray, List.set_cons_succ, List.set_cons_zero, List.nil_append, List.cons_append]
      refine wpGrowV_fix _ rfl rfl (fun W hb _ => by go_simp; first | exact xrefl W | exact ⟨rfl, xrefl W⟩) ?_
      try simp only [Act.put, List.setIfInBounds_toArray, List.set_cons_succ, List.set_cons_zero, List.nil_append, List.cons_append]
      refine wpGrowV_fix _ rfl rfl (fun W hb _ => by have c := cbel hb c5; go_simp; first | exact xrefl W | exact ⟨rfl, xrefl W⟩) ?_
      try simp only [Act.put, List.setIfInBounds_toArray, List.set_cons_succ, List.set_cons_zero, List.nil_append, List.cons_append]
      refine wpGrowV_fix (.int .u32 (rootI cube x.1)) rfl rfl (fun W hb hF => ?_) ?_
      · clear c2
        clear hF
        go_simp
        go_at_call 38
        refine (root_any x.1 cube W x.2).mono ?_
        rintro e w' ⟨rfl, rfl⟩
        exact ⟨rfl, xrefl _⟩
      try simp only [Act.put, List.setIfInBounds_toArray, List.set_cons_succ, List.set_cons_zero, List.nil_append, List.cons_append]
      refine wpGrowV_fix _ rfl rfl (fun W hb _ => by go_simp; first | exact xrefl W | exact ⟨rfl, xrefl W⟩) ?_
      try simp only [Act.put, List.setIfInBounds_toArray, List.set_cons_succ, List.set_cons_zero, List.nil_append, List.cons_append]
      refine wpGrowV_nil fun W3 hbW _ => ?_
      have hB3 := hB2.below hbW
      have cB := hB3.cell pre.length (by rw [fillP_len]; exact hltn)
      have fB := hB3.frozen pre.length
      have c23 := cbel hbW c2
      have f23 := fbel hbW c2 f2
      have c43 := cbel hbW c4
      have c53 := cbel hbW c5
      have hgB : g ≠ w.heap.size + 2 := by omega
      gi_wp2
      have hset := hB3.set pre.length (rootI cube x.1)
      rw [fillP_snoc] at hset
      have hon3 : Only (· = g) w W3 := only_more hon2 (Below.only (O := fun _ => False) hbW) (B := w.heap.size) (Nat.le_refl _) (fun k h => h.elim)
      have hs3 := hbW.size
      have e2 : (w.heap.size + 1 + 1 : Nat) = w.heap.size + 2 := rfl
      refine ⟨((Below.keep hbW).setCell ⟨g, pre.length, none⟩ _ (fun h => ?_)).setCell ⟨w.heap.size + 2, 0, none⟩ _ (fun h => ?_), ?_⟩
      · rcases h with h | h
        · have := (hO.out g h).1; omega
        · exact h
      · rcases h with h | h
        · have := (hO.out _ h).1; simp at this
        · exact h
      · have d2 := csame (.int .i64 ((pre.length : Int) + 1)) (cne (.int .u32 (rootI cube x.1)) (show (⟨g, pre.length, none⟩ : Addr) ≠ ⟨w.heap.size + 2, 0, none⟩ from fun e => by injection e with e1; omega) c23)
        have d4 := cne (.int .i64 ((pre.length : Int) + 1)) (show (⟨w.heap.size + 2, 0, none⟩ : Addr) ≠ ⟨w.heap.size, 0, none⟩ from fun e => by injection e with e1; omega) (cne (.int .u32 (rootI cube x.1)) (show (⟨g, pre.length, none⟩ : Addr) ≠ ⟨w.heap.size, 0, none⟩ from fun e => by injection e with e1; omega) c43)
        have d5 := cne (.int .i64 ((pre.length : Int) + 1)) (show (⟨w.heap.size + 2, 0, none⟩ : Addr) ≠ ⟨w.heap.size + 1, 0, none⟩ from fun e => by injection e with e1; omega) (cne (.int .u32 (rootI cube x.1)) (show (⟨g, pre.length, none⟩ : Addr) ≠ ⟨w.heap.size + 1, 0, none⟩ from fun e => by injection e with e1; omega) c53)
        exact ⟨by simp; omega, by simpa using d2, fset _ (fset _ f23), d4, d5, hset.oth _ (by omega), only_more (hon3.setCell ⟨g, pre.length, none⟩ _ rfl) ((Only.refl (· = w.heap.size + 2) _).setCell ⟨w.heap.size + 2, 0, none⟩ _ rfl) (B := w.heap.size) (Nat.le_refl _) (fun k h => by omega), rfl⟩
  case done =>
    rintro D xs O W hD hOD hO hS
    exact hS.elim
  case stop =>
    rintro D c pre O W hD hOD hO ⟨n, hn⟩ ⟨rfl, pre', x, rfl, hl', hB', hon'⟩ hK
    gi_wp2
    refine ⟨by simp, .inl ⟨_, _, rfl, run_takeDeferred hK, ?_⟩⟩
    have hput := (Only.refl (· = D) W).putObj D (.deferred none) rfl
    refine ⟨_, results_none rfl _ _ _, rfl, ?_, only_more hon' hput (B := w.heap.size + 3) (by omega) (fun k h => by omega)⟩
    rw [← fillP_roots m cube pre' x n hm hl' hn]
    exact hB'.only hput (by omega)
end Go.Proofs.Ytfieagpidplmoaa
