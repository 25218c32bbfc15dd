/- maps.Keys and its iterator, slices.Collect, at map[api.CallKind]struct { name string; values bool }. -/
import Derived.Test.YtioihjgobmbanaaMapR
namespace Go.Proofs.Ytioihjgobmbanaa
open Go.RowKit Go.Shelf
attribute [local go_sem] Oper.semAt_some

theorem ck_keys_any (bm : Nat) (w : World) : Calls Try.prog 39 #[.map (some bm)] w fun e w' => e = .returned (.func (.func 54) #[] #[.pointer (some ⟨w.heap.size, 0, none⟩)]) ∧ w.alloc (.cells #[.map (some bm)] 55) = w' := by
  go_enter Try.func39, Try.ntmps39
  go_wp2
  go_ret
  exact ⟨rfl, rfl⟩
/-- The keys of the places. -/
def ck_keyAt (l : List (Int × Value)) (seen : List Nat) : List Int := seen.map fun j => (l[j]?.map (·.1)).getD 0
theorem ck_keyAt_snoc (l : List (Int × Value)) (seen : List Nat) (j : Nat) (hj : j < l.length) : ck_keyAt l (seen ++ [j]) = ck_keyAt l seen ++ [l[j].1] := by
  unfold ck_keyAt; simp [hj]
theorem ck_keyAt_all (l : List (Int × Value)) : ck_keyAt l (List.range l.length) = l.map (·.1) := by
  unfold ck_keyAt
  apply List.ext_getElem (by simp)
  intro i h1 h2
  simp at h1
  simp [h1]
set_option maxRecDepth 100000 in
set_option maxHeartbeats 1000000 in
theorem ck_keys_seq (l : List (Int × Value)) (bx bm : Nat) (W : World) (hx : W.cell? ⟨bx, 0, none⟩ = some (.map (some bm))) (hm : W.heap[bm]? = some (mapI .i64 l)) :
    SeqP Try.prog 54 #[.pointer (some ⟨bx, 0, none⟩)] (fun x : Int => #[.int .i64 x]) (fun k => k = bm) (fun xs => xs.Perm (l.map (·.1))) (fun pre => ∃ seen : List Nat, seen.Nodup ∧ (∀ j ∈ seen, j < l.length) ∧ pre = ck_keyAt l seen) l.length false W := by
  intro l0 J Jx hJ hJx hY h0 _
  replace hJ := Lib.hid hJ
  replace hJx := Lib.hid hJx
  replace hY := Lib.hid hY
  have hrg := range_mapI (P := Try.prog) (t := 55) Try.underlying55 hm
  have hml : bm < W.heap.size := (Array.getElem?_eq_some_iff.1 hm).1
  replace hm := Lib.hid hm
  replace h0 := Lib.hid h0
  refine callsIn_of_wp Try.func54 rfl trivial ?_ rfl
  simp only [Try.ntmps54, List.size_toArray, List.length_cons, List.length_nil, Nat.reduceAdd, Nat.reduceSub, Array.replicate_succ, Array.replicate_zero, List.push_toArray, List.append_toArray, List.nil_append, List.cons_append]
  gi_wp2
  obtain ⟨it, hit⟩ : ∃ it, it = W.heap.size := ⟨_, rfl⟩
  have hb1 : Below W.heap.size W (W.alloc (itO bm l.length [])) := xalloc (xrefl W) _
  have hi1 : (W.alloc (itO bm l.length [])).heap[it]? = some (itO bm l.length []) := by rw [hit]; exact World.alloc_heap_new W _
  have hm1 : (W.alloc (itO bm l.length [])).heap[bm]? = some (mapI .i64 l) := (hb1.block bm hml).trans hm.out
  have hJ1 : J (fun k => k = it) [] (W.alloc (itO bm l.length [])) := hJ.out _ _ _ W _ h0.out (fun k h => h.elim) (Below.only hb1) (fun k e => .inr (by omega))
  have hle := hb1.size
  rw [← hit]
  generalize W.alloc (itO bm l.length []) = W1 at hi1 hm1 hJ1 hle ⊢
  replace hi1 := Lib.hid hi1
  replace hm1 := Lib.hid hm1
  replace hJ1 := Lib.hid hJ1
  clear hb1 hrg
  have hbi : ¬ bm = it := by omega
  replace hit := Lib.hid hit
  gi_loopw [3] (fun _ wr => ∃ seen : List Nat, Hid (seen.Nodup ∧ ∀ j ∈ seen, j < l.length) ∧ Hid (wr.heap[it]? = some (itO bm l.length seen)) ∧ Hid (wr.heap[bm]? = some (mapI .i64 l)) ∧ Hid (J (fun k => k = it) (ck_keyAt l seen) wr)) (fun _ wr => l.length - seenAt wr it)
  case atStart => exact ⟨[], Lib.hid ⟨List.nodup_nil, fun j h => by cases h⟩, hi1, hm1, hJ1⟩
  case round =>
    clear hi1 hm1 hJ1
    obtain ⟨seen, hs, hi, hm1, hJs⟩ := hrel
    rcases next_mapI (P := Try.prog) 0 hi.out hm1.out with ⟨hall, hrun⟩ | ⟨j, hj, hns, W2, hrun, hon, hi2⟩
    · have hrun' : ∀ ty, (Instr.next (.pointer (some ⟨it, 0, none⟩)) false ty).run Try.prog wr = _ := fun ty => hrun
      clear hrun
      replace hall := Lib.hid hall
      gi_wp2
      go_end0
      have hp := perm_seen hs.out.1 hs.out.2 hall.out
      refine ⟨⟨_, rfl⟩, .inl ⟨_, _, ?_, fun k e => by have := hit.out; omega, hJs.out⟩⟩
      have := hp.map fun j => (l[j]?.map (·.1)).getD 0
      have e := ck_keyAt_all l
      unfold ck_keyAt at e ⊢
      rwa [e] at this
    · have hrun' : ∀ ty, (Instr.next (.pointer (some ⟨it, 0, none⟩)) false ty).run Try.prog wr = _ := fun ty => hrun
      have hm2 : W2.heap[bm]? = some (mapI .i64 l) := (hon.same bm (Array.getElem?_eq_some_iff.1 hm1.out).1 hbi).trans hm1.out
      have hen := entry_mapI (P := Try.prog) hj hi2 hm2
      have hJ2 : J (fun k => k = it) (ck_keyAt l seen) W2 := hJ.out _ _ _ wr W2 hJs.out (fun k e => by have := hit.out; omega) hon (fun k e => .inl e)
      have hlt := seen_lt hs.out.1 hs.out.2 hj hns
      have hlen : (ck_keyAt l seen).length < l.length := by unfold ck_keyAt; rw [List.length_map]; exact hlt
      have hsn : Hid ((seen ++ [j]).Nodup ∧ ∀ i ∈ seen ++ [j], i < l.length) := Lib.hid ⟨by rw [List.nodup_append]; exact ⟨hs.out.1, by simp, fun a ha b hb e => hns (by simp at hb; subst hb; rw [← e]; exact ha)⟩, fun i hi => by
        rcases List.mem_append.1 hi with h | h
        · exact hs.out.2 i h
        · simp at h; omega⟩
      have hsnoc := ck_keyAt_snoc l seen j hj
      have h2l : it < W2.heap.size := (Array.getElem?_eq_some_iff.1 hi2).1
      obtain ⟨fnc, tmps, assign, body, hy, hR⟩ := hY.out (fun k => k = it) (ck_keyAt l seen) l[j].1 W2 (fun k e => by have := hit.out; omega) hJ2 hlen ⟨seen ++ [j], hsn.out.1, hsn.out.2, hsnoc.symm⟩
      have hsl : seenAt wr it = seen.length := seenAt_eq hi.out
      rw [← hsnoc] at hR
      clear hrun hJ2 hsnoc hlen
      generalize l[j].1 = key at *
      replace hi2 := Lib.hid hi2
      replace hm2 := Lib.hid hm2
      replace hns := Lib.hid hns
      replace hR := Lib.hid hR
      replace hsl := Lib.hid hsl
      clear hon hJs hs
      gi_wp2
      refine ⟨rfl, hR.out.mono ?_⟩
      rintro e W3 (⟨rfl, hJ3, hk3⟩ | ⟨rfl, hJx3, hk3⟩)
      · have hi3 := Lib.hid ((hk3.same it (Array.getElem?_eq_some_iff.1 hi2.out).1 (.inl rfl)).trans hi2.out)
        have hm3 := Lib.hid ((hk3.same bm (Array.getElem?_eq_some_iff.1 hm2.out).1 (.inr rfl)).trans hm2.out)
        replace hJ3 := Lib.hid hJ3
        have hlt3 : l.length - seenAt W3 it < l.length - seenAt wr it := by
          rw [hsl.out, seenAt_eq hi3.out, List.length_append]; simp; omega
        replace hlt3 := Lib.hid hlt3
        clear hk3
        gi_wp2
        exact ⟨⟨seen ++ [j], hsn, hi3, hm3, hJ3⟩, hlt3.out⟩
      · gi_wp2
        refine bodyPost_ret (results_none rfl _ _ _) rfl ?_
        exact ⟨⟨_, rfl⟩, .inr ⟨_, _, ⟨seen ++ [j], hsn.out.1, hsn.out.2, rfl⟩, fun k e => by have := hit.out; omega, hJx3⟩⟩
end Go.Proofs.Ytioihjgobmbanaa
