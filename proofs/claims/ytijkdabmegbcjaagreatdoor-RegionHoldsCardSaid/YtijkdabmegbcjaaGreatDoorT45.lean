/- Texts of this claim, merged; no condition. -/
import Derived.Test.YtijkdabmegbcjaaGreatDoorT18
import Derived.Test.YtijkdabmegbcjaaGreatDoorT44
import Derived.Test.YtijkdabmegbcjaaGreatDoorT27
import Derived.Test.YtijkdabmegbcjaaGreatDoorT10
import Derived.Test.YtijkdabmegbcjaaGreatDoorT12
import Derived.Test.YtijkdabmegbcjaaGreatDoorT34
import Derived.ProofKit
import Derived.OpenShut
import Derived.ShutString
import Derived.ChangeOld
import Derived.Below
import Derived.Test.YtijkdabmegbcjaaGreatDoorT03
import Derived.Test.YtijkdabmegbcjaaGreatDoorTA
set_option linter.all false
namespace Go.Proofs.YtijkdabmegbcjaaGreatDoor
section
open Go.RowKit Go.Shelf
attribute [local go_sem] Oper.semAt_some
theorem rkeys_any (bm : Nat) (w : World) : Calls Tryz.prog 98 #[.map (some bm)] w fun e w' => e = .returned (.func (.func 126) #[] #[.pointer (some ⟨w.heap.size, 0, none⟩)]) ∧ w.alloc (.cells #[.map (some bm)] 139) = w' := by
  go_enter Tryz.func98, Tryz.ntmps98
  go_wp2
  go_ret
  exact ⟨rfl, rfl⟩
def rkeyAt (l : List (Int × Value)) (seen : List Nat) : List Int := seen.map fun j => (l[j]?.map (·.1)).getD 0
theorem rkeyAt_snoc (l : List (Int × Value)) (seen : List Nat) (j : Nat) (hj : j < l.length) : rkeyAt l (seen ++ [j]) = rkeyAt l seen ++ [l[j].1] := by
  unfold rkeyAt; simp [hj]
theorem rkeyAt_all (l : List (Int × Value)) : rkeyAt l (List.range l.length) = l.map (·.1) := by
  unfold rkeyAt
  apply List.ext_getElem (by simp)
  intro i h1 h2
  simp at h1
  simp [h1]
set_option maxRecDepth 100000 in
set_option maxHeartbeats 1000000 in
theorem rkeys_seq (l : List (Int × Value)) (bx bm : Nat) (W : World) (hx : W.cell? ⟨bx, 0, none⟩ = some (.map (some bm))) (hm : W.heap[bm]? = some (mapI .i64 l)) :
    SeqP Tryz.prog 126 #[.pointer (some ⟨bx, 0, none⟩)] (fun x : Int => #[.int .i64 x]) (fun k => k = bm) (fun xs => xs.Perm (l.map (·.1))) (fun pre => ∃ seen : List Nat, seen.Nodup ∧ (∀ j ∈ seen, j < l.length) ∧ pre = rkeyAt l seen) l.length false W := by
  intro l0 J Jx hJ hJx hY h0 _
  replace hJ := qh hJ
  replace hJx := qh hJx
  replace hY := qh hY
  have hrg := range_mapI (P := Tryz.prog) (t := 139) Tryz.underlying139 hm
  have hml : bm < W.heap.size := (Array.getElem?_eq_some_iff.1 hm).1
  replace hm := qh hm
  replace h0 := qh h0
  refine callsIn_of_wp Tryz.func126 rfl trivial ?_ rfl
  simp only [Tryz.ntmps126, List.size_toArray, List.length_cons, List.length_nil, Nat.reduceAdd, Nat.reduceSub, Array.replicate_succ, Array.replicate_zero, List.push_toArray, List.append_toArray, List.nil_append, List.cons_append]
  gi_wp2
  obtain ⟨it, hit⟩ : ∃ it, it = W.heap.size := ⟨_, rfl⟩
  have hb1 : Below W.heap.size W (W.alloc (itO bm l.length [])) := xalloc (xrefl W) _
  have hi1 : (W.alloc (itO bm l.length [])).heap[it]? = some (itO bm l.length []) := by rw [hit]; exact World.alloc_heap_new W _
  have hm1 : (W.alloc (itO bm l.length [])).heap[bm]? = some (mapI .i64 l) := (hb1.block bm hml).trans hm.out
  have hJ1 : J (fun k => k = it) [] (W.alloc (itO bm l.length [])) := hJ.out _ _ _ W _ h0.out (fun k h => h.elim) (Below.only hb1) (fun k e => .inr (by omega))
  have hle := hb1.size
  rw [← hit]
  generalize W.alloc (itO bm l.length []) = W1 at hi1 hm1 hJ1 hle ⊢
  replace hi1 := qh hi1
  replace hm1 := qh hm1
  replace hJ1 := qh hJ1
  clear hb1 hrg
  have hbi : ¬ bm = it := by omega
  replace hit := qh hit
  gi_loopw [3] (fun _ wr => ∃ seen : List Nat, Hid (seen.Nodup ∧ ∀ j ∈ seen, j < l.length) ∧ Hid (wr.heap[it]? = some (itO bm l.length seen)) ∧ Hid (wr.heap[bm]? = some (mapI .i64 l)) ∧ Hid (J (fun k => k = it) (rkeyAt l seen) wr)) (fun _ wr => l.length - seenAt wr it)
  case atStart => exact ⟨[], qh ⟨List.nodup_nil, fun j h => by cases h⟩, hi1, hm1, hJ1⟩
  case round =>
    clear hi1 hm1 hJ1
    obtain ⟨seen, hs, hi, hm1, hJs⟩ := hrel
    rcases next_mapI (P := Tryz.prog) 0 hi.out hm1.out with ⟨hall, hrun⟩ | ⟨j, hj, hns, W2, hrun, hon, hi2⟩
    · have hrun' : ∀ ty, (Instr.next (.pointer (some ⟨it, 0, none⟩)) false ty).run Tryz.prog wr = _ := fun ty => hrun
      clear hrun
      replace hall := qh hall
      gi_wp2
      go_end0
      have hp := perm_seen hs.out.1 hs.out.2 hall.out
      refine ⟨⟨_, rfl⟩, .inl ⟨_, _, ?_, fun k e => by have := hit.out; omega, hJs.out⟩⟩
      have := hp.map fun j => (l[j]?.map (·.1)).getD 0
      have e := rkeyAt_all l
      unfold rkeyAt at e ⊢
      rwa [e] at this
    · have hrun' : ∀ ty, (Instr.next (.pointer (some ⟨it, 0, none⟩)) false ty).run Tryz.prog wr = _ := fun ty => hrun
      have hm2 : W2.heap[bm]? = some (mapI .i64 l) := (hon.same bm (Array.getElem?_eq_some_iff.1 hm1.out).1 hbi).trans hm1.out
      have hen := entry_mapI (P := Tryz.prog) hj hi2 hm2
      have hJ2 : J (fun k => k = it) (rkeyAt l seen) W2 := hJ.out _ _ _ wr W2 hJs.out (fun k e => by have := hit.out; omega) hon (fun k e => .inl e)
      have hlt := seen_lt hs.out.1 hs.out.2 hj hns
      have hlen : (rkeyAt l seen).length < l.length := by unfold rkeyAt; rw [List.length_map]; exact hlt
      have hsn : Hid ((seen ++ [j]).Nodup ∧ ∀ i ∈ seen ++ [j], i < l.length) := qh ⟨by rw [List.nodup_append]; exact ⟨hs.out.1, by simp, fun a ha b hb e => hns (by simp at hb; subst hb; rw [← e]; exact ha)⟩, fun i hi => by
        rcases List.mem_append.1 hi with h | h
        · exact hs.out.2 i h
        · simp at h; omega⟩
      have hsnoc := rkeyAt_snoc l seen j hj
      have h2l : it < W2.heap.size := (Array.getElem?_eq_some_iff.1 hi2).1
      obtain ⟨fnc, tmps, assign, body, hy, hR⟩ := hY.out (fun k => k = it) (rkeyAt l seen) l[j].1 W2 (fun k e => by have := hit.out; omega) hJ2 hlen ⟨seen ++ [j], hsn.out.1, hsn.out.2, hsnoc.symm⟩
      have hsl : seenAt wr it = seen.length := seenAt_eq hi.out
      rw [← hsnoc] at hR
      clear hrun hJ2 hsnoc hlen
      generalize l[j].1 = key at *
      replace hi2 := qh hi2
      replace hm2 := qh hm2
      replace hns := qh hns
      replace hR := qh hR
      replace hsl := qh hsl
      clear hon hJs hs
      gi_wp2
      refine ⟨rfl, hR.out.mono ?_⟩
      rintro e W3 (⟨rfl, hJ3, hk3⟩ | ⟨rfl, hJx3, hk3⟩)
      · have hi3 := qh ((hk3.same it (Array.getElem?_eq_some_iff.1 hi2.out).1 (.inl rfl)).trans hi2.out)
        have hm3 := qh ((hk3.same bm (Array.getElem?_eq_some_iff.1 hm2.out).1 (.inr rfl)).trans hm2.out)
        replace hJ3 := qh hJ3
        have hlt3 : l.length - seenAt W3 it < l.length - seenAt wr it := by
          rw [hsl.out, seenAt_eq hi3.out, List.length_append]; simp; omega
        replace hlt3 := qh hlt3
        clear hk3
        gi_wp2
        exact ⟨⟨seen ++ [j], hsn, hi3, hm3, hJ3⟩, hlt3.out⟩
      · gi_wp2
        refine bodyPost_ret (results_none rfl _ _ _) rfl ?_
        exact ⟨⟨_, rfl⟩, .inr ⟨_, _, ⟨seen ++ [j], hsn.out.1, hsn.out.2, rfl⟩, fun k e => by have := hit.out; omega, hJx3⟩⟩
end
section
open Go.RowKit Go.Shelf
def regOf (cs : List Nat) (n : Int) : Option (Int × StN) := (seenN cs n).map fun x => ((x.1 : Int), x.2.1)
def keysOf (cs : List Nat) (n : Int) : Option (List Nat) := (seenN cs n).map fun x => setL (x.2.2.map (·.1))
section
variable {cs : List Nat} {a : Option Addr} {c : Nat}
set_option maxRecDepth 100000 in
set_option maxHeartbeats 4000000 in
theorem ofSee_any (b0 b1 : Nat) (n : Int) (W : World) (h : CodeAt W a c cs) (hl : cs.length ≤ 100) (c0 : W.cell? ⟨b0, 0, none⟩ = some (.slice a cs.length c)) (c1 : W.cell? ⟨b1, 0, none⟩ = some (.int .i64 n)) :
    Calls Tryz.prog 68 #[.pointer (some ⟨b0, 0, none⟩), .pointer (some ⟨b1, 0, none⟩)] W fun e W' => SeeR (regOf cs n) e ∧ Below W.heap.size W W' := by
  obtain ⟨i0, hi0, hz0, hz1, hz2⟩ := info_parts info_reg
  have hrg := Tryz.underlying59
  have hb0 : Below W.heap.size W (W.alloc (.cells #[.int .i64 0, .int .u64 0, .int .u64 0, .int .i64 0, .int .i64 0, .int .i64 0] 59)) := xalloc (xrefl W) _
  have hR0 : Hid (BlkG (W.alloc (.cells #[.int .i64 0, .int .u64 0, .int .u64 0, .int .i64 0, .int .i64 0, .int .i64 0] 59)) W.heap.size 59 (regC 0 zeroS)) := qh (BlkG.new W _ _)
  have hs0 : W.heap.size < (W.alloc (.cells #[.int .i64 0, .int .u64 0, .int .u64 0, .int .i64 0, .int .i64 0, .int .i64 0] 59)).heap.size := by rw [World.size_alloc]; omega
  have hse := qh (seen_any n _ (h.below hb0) hl)
  have d0 := cbel hb0 c0
  have d1 := cbel hb0 c1
  clear c0 c1 h
  replace hb0 := qh hb0
  go_enter Tryz.func68, Tryz.ntmps68
  unfold regOf
  cases hsn : seenN cs n with
  | none =>
    rw [hsn] at hse
    unfold LookR at hse
    go_wp2_with (go_at_call 69; refine hse.out.mono ?_; rintro e w2 ⟨rfl, hb2⟩; replace hb2 := qh (xtrans hb0.out hb2))
    exact ⟨rfl, rfl, hb2.out⟩
  | some x =>
    obtain ⟨en, s, σ⟩ := x
    rw [hsn] at hse
    unfold LookR at hse
    go_wp2_with (first
      | (go_at_call 69; refine hse.out.mono ?_; rintro e w2 ⟨⟨lb, mb, kb, db, rfl, -, -⟩, hb2⟩; have hR2 := qh (hR0.out.below hb2); have hsz2 := hb2.size; replace hb2 := qh (xtrans hb0.out hb2))
      | (refine wpList_store_blkG rfl 59 _ _ rfl w2.heap.size rfl 59 (regC 0 zeroS) (regC en s) (BlkG.new w2 _ _) rfl rfl (by kernel_rfl) rfl ?_; intro w3 hX3 ho3; have hb3 := ho3.below (xalloc (xrefl w2) _) (xalloc (xrefl w2) _).size (by rintro k rfl; exact Nat.le_refl _); have hR3 := qh (hR2.out.below hb3); have hsz3 := hb3.size; replace hX3 := qh hX3; replace hb3 := qh (xtrans hb2.out hb3); clear ho3)
      | (refine wpList_load_blkG rfl 59 _ rfl w2.heap.size rfl 59 (regC en s) _ hX3.out hrg rfl (by kernel_rfl) ?_)
      | (refine wpList_store_blkG rfl 59 _ _ rfl W.heap.size rfl 59 (regC 0 zeroS) (regC en s) hR3.out rfl rfl (by kernel_rfl) rfl ?_; intro w4 hX4 ho4; have hb4 := qh (ho4.below hb3.out hb3.out.size (by rintro k rfl; omega)); replace hX4 := qh hX4; clear ho4))
    exact bodyPost_ret (results_blkG rfl _ _ W.heap.size 59 (regC en s) _ rfl hX4.out hrg rfl (by kernel_rfl)) rfl ⟨rfl, hb4.out⟩
set_option maxRecDepth 100000 in
set_option maxHeartbeats 4000000 in
theorem ofR_any (n : Int) (W : World) (h : CodeAt W a c cs) (hl : cs.length ≤ 100) :
    Calls Tryz.prog 38 #[.slice a cs.length c, .int .i64 n] W fun e W' => e = .returned (.tuple #[.agg (regL (regOf cs n)).toArray, .bool (regOf cs n).isSome]) ∧ Below W.heap.size W W' := by
  have hmf : ∀ (fn : Fn) (first cap : Array Value) (w : World), (Instr.makeFunc fn first cap).run Tryz.prog w = .ok (.func fn first cap) w := fun _ _ _ _ => rfl
  obtain ⟨i0, hi0, hz0, hz1, hz2⟩ := info_parts info_reg
  have hrg := Tryz.underlying59
  obtain ⟨w3, hw3⟩ : ∃ w3, ((W.alloc (.cells #[.slice a cs.length c] 22)).alloc (.cells #[.int .i64 n] 3)).alloc (.cells #[.int .i64 0, .int .u64 0, .int .u64 0, .int .i64 0, .int .i64 0, .int .i64 0] 59) = w3 := ⟨_, rfl⟩
  have s1 : (W.alloc (.cells #[.slice a cs.length c] 22)).heap.size = W.heap.size + 1 := World.size_alloc _ _
  have s2 : ((W.alloc (.cells #[.slice a cs.length c] 22)).alloc (.cells #[.int .i64 n] 3)).heap.size = W.heap.size + 1 + 1 := by rw [World.size_alloc, s1]
  have hb3 : Below W.heap.size W w3 := by rw [← hw3]; exact xalloc (xalloc (xalloc (xrefl W) _) _) _
  have hx0 : Box w3 W.heap.size (.slice a cs.length c) 22 := by
    rw [← hw3]
    have h1 := Box.new W (.slice a cs.length c) 22
    exact (h1.below (xalloc (xrefl _) _)).below (xalloc (xrefl _) _)
  have hx1 : Box w3 (W.heap.size + 1) (.int .i64 n) 3 := by
    rw [← hw3]
    have h1 := Box.new (W.alloc (.cells #[.slice a cs.length c] 22)) (.int .i64 n) 3
    rw [s1] at h1
    exact h1.below (xalloc (xrefl _) _)
  have hR3 : BlkG w3 (W.heap.size + 1 + 1) 59 (regC 0 zeroS) := by
    rw [← hw3]
    have h1 := BlkG.new ((W.alloc (.cells #[.slice a cs.length c] 22)).alloc (.cells #[.int .i64 n] 3)) 59 (regC 0 zeroS)
    rw [s2] at h1
    exact h1
  have htr := qh (triedR_any (.pointer (some ⟨W.heap.size, 0, none⟩)) (.pointer (some ⟨W.heap.size + 1, 0, none⟩)) (regOf cs n) w3 (fun W' hW => ofSee_any W.heap.size (W.heap.size + 1) n W' (h.below (xtrans hb3 hW)) hl (hx0.below hW).cell (hx1.below hW).cell))
  have hR3l := hR3.lt
  replace hR3 := qh hR3
  replace hb3 := qh hb3
  replace hw3 := qh hw3
  have hrl : Hid ((regL (regOf cs n)).length = 6 ∧ (regL (regOf cs n)).all (·.oneCell') = true) := qh (by
    cases regOf cs n with
    | none => exact ⟨rfl, rfl⟩
    | some x => exact ⟨rfl, rfl⟩)
  clear hx0 hx1 s1 s2
  generalize regL (regOf cs n) = vs at *
  generalize (regOf cs n).isSome = is at *
  go_enter Tryz.func38, Tryz.ntmps38
  go_wp2_with (first
    | (go_at_call 67; rw [hw3.out]; refine htr.out.mono ?_; rintro e w4 ⟨rfl, hb4⟩; have hR4 := qh (hR3.out.below hb4); replace hb4 := qh (xtrans hb3.out hb4))
    | (refine wpList_store_blkG rfl 59 _ _ rfl (W.heap.size + 1 + 1) rfl 59 (regC 0 zeroS) vs hR4.out rfl (by rw [hrl.out.1]; rfl) (by rw [hrl.out.1]; kernel_rfl) hrl.out.2 ?_; intro w5 hX5 ho5; have hb5 := qh (ho5.below hb4.out hb4.out.size (by rintro k rfl; omega)); replace hX5 := qh hX5; clear ho5))
  exact bodyPost_ret (results_blkG2 (p := 4) (r := 5) rfl _ _ (W.heap.size + 1 + 1) 59 vs _ rfl hX5.out hrg rfl (by rw [hrl.out.1]; kernel_rfl)) rfl ⟨rfl, hb5.out⟩
theorem KnL.keys {σ : KnS} {l d : List (Int × Value)} (h : KnL σ l d) : ∃ K : List Nat, l.map (·.1) = natI K ∧ K.Nodup ∧ setL K = setL (σ.map (·.1)) ∧ K.length ≤ σ.length ∧ l.length = K.length := by
  have e : l.map (·.1) = natI ((l.map (·.1)).map Int.toNat) := by
    unfold natI
    rw [List.map_map]
    conv => lhs; rw [← List.map_id (l.map (·.1))]
    exact List.map_congr_left fun x hx => by
      have := h.pos x hx
      show x = ((x.toNat : Nat) : Int)
      omega
  have hnd : ((l.map (·.1)).map Int.toNat).Nodup := by
    have hn := h.nd
    rw [e] at hn
    unfold natI at hn
    exact List.Pairwise.of_map (S := (· ≠ ·)) _ (fun a b h e => h (by rw [e])) hn
  have hset : setL ((l.map (·.1)).map Int.toNat) = setL (σ.map (·.1)) := by
   refine sl_ext (setL_sl _) (setL_sl _) fun k => ?_
   rw [mem_setL, mem_setL]
   have hk : ∀ σ : KnS, k ∈ σ.map (·.1) ↔ (lookK σ k).isSome = true := by
     intro σ
     induction σ with
     | nil => simp [lookK]
     | cons x σ ih =>
       rw [List.map_cons, List.mem_cons, lookK_cons]
       by_cases e2 : k = x.1
       · simp [e2]
       · rw [if_neg e2]; simp [e2, ih]
   rw [hk]
   have hf := h.find k
   constructor
   · intro hm
     have hm2 : (k : Int) ∈ l.map (·.1) := by rw [e]; unfold natI; exact List.mem_map.2 ⟨k, hm, rfl⟩
     obtain ⟨x, hx, e3⟩ := List.mem_map.1 hm2
     cases hlk : lookK σ k with
     | some o => rfl
     | none =>
       rw [hlk] at hf
       exact absurd e3 (findI_none hf x hx)
   · intro hs
     by_cases hm : (k : Int) ∈ l.map (·.1)
     · rw [e] at hm
       obtain ⟨y, hy, e3⟩ := List.mem_map.1 hm
       have : y = k := by omega
       rwa [← this]
     · rw [findI_key hm] at hf
       cases hlk : lookK σ k with
       | none => rw [hlk] at hs; cases hs
       | some o => rw [hlk] at hf; cases hf
  refine ⟨(l.map (·.1)).map Int.toNat, e, hnd, hset, ?_, by simp⟩
  have := hnd.length_le_of_subset (l₂ := σ.map (·.1)) fun x hx => by
    rw [← mem_setL, hset, mem_setL] at hx; exact hx
  simpa using this
set_option maxRecDepth 100000 in
set_option maxHeartbeats 4000000 in
theorem withinSee_any (b0 b1 : Nat) (n : Int) (W : World) (h : CodeAt W a c cs) (hl : cs.length ≤ 100) (c0 : W.cell? ⟨b0, 0, none⟩ = some (.slice a cs.length c)) (c1 : W.cell? ⟨b1, 0, none⟩ = some (.int .i64 n)) (hsm : ∀ x, seenN cs n = some x → x.2.2.length ≤ 1000) :
    Calls Tryz.prog 97 #[.pointer (some ⟨b0, 0, none⟩), .pointer (some ⟨b1, 0, none⟩)] W fun e W' => SeeI (keysOf cs n) e W' ∧ Below W.heap.size W W' := by
  obtain ⟨i0, hi0, hz0, hz1, hz2⟩ := info_parts info_reg
  have hrg := Tryz.underlying59
  have hse := qh (seen_any n _ h hl)
  clear h
  go_enter Tryz.func97, Tryz.ntmps97
  unfold keysOf
  cases hsn : seenN cs n with
  | none =>
    rw [hsn] at hse
    unfold LookR at hse
    go_wp2_with (go_at_call 69; refine hse.out.mono ?_; rintro e w2 ⟨rfl, hb2⟩; replace hb2 := qh hb2)
    exact ⟨rfl, rfl, hb2.out⟩
  | some x =>
    have hsm2 := hsm x hsn
    obtain ⟨en, s, σ⟩ := x
    rw [hsn] at hse
    unfold LookR at hse
    go_wp2_with (first
      | (go_at_call 69; refine hse.out.mono ?_; rintro e w2 ⟨⟨lb, mb, kb, db, rfl, hL, hK⟩, hb2⟩; replace hL := qh hL; replace hK := qh hK; replace hb2 := qh hb2)
      | (refine wpList_store_blkG rfl 59 _ _ rfl w2.heap.size rfl 59 (regC 0 zeroS) (regC en s) (BlkG.new w2 _ _) rfl rfl (by kernel_rfl) rfl ?_; intro w3 hX3 ho3; have hb3 := ho3.below (xalloc (xrefl w2) _) (xalloc (xrefl w2) _).size (by rintro k rfl; exact Nat.le_refl _); have hL3 := hL.out.below hb3; have hK3 := qh (hK.out.below hb3); have cl3 := hL3.cell 3 (by simp [LookC]); simp only [LookC, List.getElem_cons_succ, List.getElem_cons_zero] at cl3; replace hb3 := qh (xtrans hb2.out hb3); clear ho3 hX3 hL3 hL hK hb2)
      | (go_at_call 98; refine (rkeys_any kb _).mono ?_; rintro e w' ⟨rfl, rfl⟩; obtain ⟨ll, dd, hk1, hk2, hKL⟩ := hK3.out; obtain ⟨KK, hKK, hKn, hKs, hKl, hKq⟩ := hKL.keys; have hml : kb < w3.heap.size := (Array.getElem?_eq_some_iff.1 hk1).1; have hb4 : Below w3.heap.size w3 (w3.alloc (.cells #[.map (some kb)] 139)) := xalloc (xrefl _) _; have hin : SeqIn 126 #[.pointer (some ⟨w3.heap.size, 0, none⟩)] (fun k => k = kb) (fun xs => xs.Perm (ll.map (·.1))) (fun pre => ∃ seen : List Nat, seen.Nodup ∧ (∀ j ∈ seen, j < ll.length) ∧ pre = rkeyAt ll seen) ll.length (w3.alloc (.cells #[.map (some kb)] 139)) := ⟨enters_of Tryz.func126 (by kernel_rfl) rfl, fun W hW => rkeys_seq ll _ kb W (cbel hW (Box.new w3 _ _).cell) ((xtrans hb4 hW).block kb hml |>.trans hk1), fun k hk => by rw [hk, World.size_alloc]; omega, by omega⟩; have hso := qh (insorted_any (w3.alloc (.cells #[.map (some kb)] 139)) hin (fun pre ⟨seen, h1, h2, h3⟩ => by rw [h3]; unfold rkeyAt; rw [List.length_map]; exact seen_le h1 h2) (fun xs hx => by have := hx.length_eq; rw [List.length_map] at this; omega)); clear hin hk1 hk2 hKL; have hb04 := qh (xtrans hb3.out hb4); clear hb4; replace hKK := qh hKK; replace hKn := qh hKn; replace hKs := qh hKs)
      | (go_at_call 60; refine hso.out.mono ?_; rintro e w5 ⟨v, xs, rfl, hS, hown, hb5⟩; replace hS := qh hS; replace hown := qh hown; replace hb5 := qh hb5))
    go_ret
    have hp := hS.out
    rw [hKK.out] at hp
    have ho := hown.out
    have hxl : xs.length = (setL KK).length := by
      have h1 := hp.length_eq
      rw [natI_len] at h1
      have h2 := setL_len KK
      have h3 := hKn.out.length_le_of_subset (l₂ := setL KK) fun x hx => (mem_setL KK x).2 hx
      omega
    rw [sort_nat hp hKn.out, hxl, hKs.out] at ho
    obtain ⟨p9, q9, rfl, hr9, hn9, -, -, -⟩ := rowV_own ho
    exact ⟨⟨p9, q9, rfl, ⟨hr9.ints, hn9⟩⟩, xtrans hb04.out hb5.out⟩
set_option maxRecDepth 100000 in
set_option maxHeartbeats 4000000 in
theorem withinR_any (n : Int) (W : World) (h : CodeAt W a c cs) (hl : cs.length ≤ 100) (hsm : ∀ x, seenN cs n = some x → x.2.2.length ≤ 1000) :
    Calls Tryz.prog 66 #[.slice a cs.length c, .int .i64 n] W fun e W' => (∃ p q, e = .returned (.slice p ((keysOf cs n).getD []).length q) ∧ IntsAt W' p q ((keysOf cs n).getD [])) ∧ Below W.heap.size W W' := by
  have hmf : ∀ (fn : Fn) (first cap : Array Value) (w : World), (Instr.makeFunc fn first cap).run Tryz.prog w = .ok (.func fn first cap) w := fun _ _ _ _ => rfl
  obtain ⟨w3, hw3⟩ : ∃ w3, (W.alloc (.cells #[.slice a cs.length c] 22)).alloc (.cells #[.int .i64 n] 3) = w3 := ⟨_, rfl⟩
  have s1 : (W.alloc (.cells #[.slice a cs.length c] 22)).heap.size = W.heap.size + 1 := World.size_alloc _ _
  have hb3 : Below W.heap.size W w3 := by rw [← hw3]; exact xalloc (xalloc (xrefl W) _) _
  have hx0 : Box w3 W.heap.size (.slice a cs.length c) 22 := by
    rw [← hw3]
    have h1 := Box.new W (.slice a cs.length c) 22
    exact h1.below (xalloc (xrefl _) _)
  have hx1 : Box w3 (W.heap.size + 1) (.int .i64 n) 3 := by
    rw [← hw3]
    have h1 := Box.new (W.alloc (.cells #[.slice a cs.length c] 22)) (.int .i64 n) 3
    rw [s1] at h1
    exact h1
  have htr := qh (triedI_any (.pointer (some ⟨W.heap.size, 0, none⟩)) (.pointer (some ⟨W.heap.size + 1, 0, none⟩)) (keysOf cs n) w3 (fun W' hW => withinSee_any W.heap.size (W.heap.size + 1) n W' (h.below (xtrans hb3 hW)) hl (hx0.below hW).cell (hx1.below hW).cell hsm))
  replace hb3 := qh hb3
  replace hw3 := qh hw3
  clear hx0 hx1 s1 hsm
  generalize keysOf cs n = ks at *
  go_enter Tryz.func66, Tryz.ntmps66
  go_wp2_with (go_at_call 96; rw [hw3.out]; refine htr.out.mono ?_; rintro e w4 ⟨⟨p, q, rfl, hI⟩, hb4⟩; replace hI := qh hI; replace hb4 := qh (xtrans hb3.out hb4))
  go_ret
  exact ⟨⟨p, q, rfl, hI.out⟩, hb4.out⟩
set_option maxRecDepth 100000 in
set_option maxHeartbeats 4000000 in
theorem fits_any (m lo hi ht g0 g1 h k : Int) (W : World) (hlo : -4000 ≤ lo ∧ lo ≤ 4000) (hhi : -4000 ≤ hi ∧ hi ≤ 4000) (hh : 0 ≤ h ∧ h ≤ 3000) (hk : 0 ≤ k ∧ k ≤ 3000) :
    Calls Tryz.prog 37 #[.agg #[.int .i64 m, .int .u64 g0, .int .u64 g1, .int .i64 lo, .int .i64 hi, .int .i64 ht], .int .i64 h, .int .i64 k] W fun e W' => e = .returned (.bool (decide (h ≥ -lo) && decide (h ≤ k - hi))) ∧ Below W.heap.size W W' := by
  have hX := BlkG.new W 59 [.int .i64 m, .int .u64 g0, .int .u64 g1, .int .i64 lo, .int .i64 hi, .int .i64 ht]
  have hb : Below W.heap.size W (W.alloc (.cells #[.int .i64 m, .int .u64 g0, .int .u64 g1, .int .i64 lo, .int .i64 hi, .int .i64 ht] 59)) := xalloc (xrefl W) _
  have d3 := hX.cell 3 (by simp)
  have d4 := hX.cell 4 (by simp)
  simp only [List.getElem_cons_succ, List.getElem_cons_zero] at d3 d4
  have w1 : IntKind.i64.wrap (-lo) = -lo := by simp [IntKind.wrap, IntKind.bits, IntKind.signed]; omega
  have w2 : IntKind.i64.wrap (k - hi) = k - hi := by simp [IntKind.wrap, IntKind.bits, IntKind.signed]; omega
  replace hb := qh hb
  clear hX
  obtain ⟨B, hB⟩ : ∃ B, B = (decide (h ≥ -lo) && decide (h ≤ k - hi)) := ⟨_, rfl⟩
  rw [← hB]
  by_cases h1 : -lo ≤ h
  · by_cases h2 : h ≤ k - hi
    · obtain rfl : B = true := by rw [hB]; simp [h1, h2]
      clear hB
      go_enter Tryz.func37, Tryz.ntmps37
      go_wp2
      go_ret
      exact ⟨rfl, hb.out⟩
    · obtain rfl : B = false := by rw [hB]; simp [h1, h2]
      clear hB
      go_enter Tryz.func37, Tryz.ntmps37
      go_wp2
      go_ret
      exact ⟨rfl, hb.out⟩
  · obtain rfl : B = false := by rw [hB]; simp [h1]
    clear hB
    go_enter Tryz.func37, Tryz.ntmps37
    go_wp2
    go_ret
    exact ⟨rfl, hb.out⟩
end
end
section
open Go.RowKit Go.Shelf
def workR13 : List Nat := [0x60, 10, 0x57, 0x60, 1, 0x60, 13, 0x56, 0, 0, 0x5b, 0x60, 2, 0x5b, 0]
theorem workR132 : (seenN workR13 2).map (fun x => (x.1, x.2.1, setL (x.2.2.map (·.1)), decide (x.2.2.length ≤ 1000))) = some (13, ⟨4, 14, 0, 2, 1⟩, [3, 10], true) := by kernel_rfl
theorem workR137 : (seenN workR13 7).isSome = false := by kernel_rfl
theorem workR132o : regOf workR13 2 = some (13, ⟨4, 14, 0, 2, 1⟩) := by
  have h := workR132
  unfold regOf
  cases hs : seenN workR13 2 with
  | none => rw [hs] at h; cases h
  | some x =>
    rw [hs] at h
    simp only [Option.map_some, Option.some.injEq, Prod.mk.injEq] at h ⊢
    exact ⟨by rw [h.1]; rfl, h.2.1⟩
theorem workR132k : keysOf workR13 2 = some [3, 10] := by
  have h := workR132
  unfold keysOf
  cases hs : seenN workR13 2 with
  | none => rw [hs] at h; cases h
  | some x =>
    rw [hs] at h
    simp only [Option.map_some, Option.some.injEq, Prod.mk.injEq] at h ⊢
    exact h.2.2.1
theorem workR132s : ∀ x, seenN workR13 2 = some x → x.2.2.length ≤ 1000 := fun x hx => by
  have h := workR132
  rw [hx] at h
  simp only [Option.map_some, Option.some.injEq, Prod.mk.injEq, decide_eq_true_eq] at h
  exact h.2.2.2
theorem workR137o : regOf workR13 7 = none := by
  have h := workR137
  unfold regOf
  cases hs : seenN workR13 7 with
  | none => rfl
  | some x => rw [hs] at h; cases h
theorem sides13_any (w : World) : Calls Tryz.prog 65 #[] w fun e w' => (∃ p, e = .returned (.slice (some p) 15 15) ∧ CodeAt w' (some p) 15 workR13) ∧ Below w.heap.size w w' := by
  have hC := rowAt_new w 5 (natI workR13) (q := .u8)
  have hb : Below w.heap.size w (w.alloc (.cells ((natI workR13).map (Value.int .u8)).toArray 5)) := xalloc (xrefl w) _
  replace hC := qh hC
  replace hb := qh hb
  go_enter Tryz.func65, Tryz.ntmps65
  go_wp2
  go_ret
  exact ⟨⟨_, rfl, ⟨hC.out, (fun e => by cases e), by decide, by decide, by decide⟩⟩, hb.out⟩
def r13Z : List Value := [.int .i64 0, .int .u64 0, .int .u64 0, .int .i64 0, .int .i64 0, .int .i64 0]
set_option maxRecDepth 100000 in
set_option maxHeartbeats 8000000 in
theorem works13_any (w : World) : Calls Tryz.prog 36 #[] w fun e w' => e = .returned (.bool true) ∧ Below w.heap.size w w' := by
  obtain ⟨i0, hi0, hz0, hz1, hz2⟩ := info_parts info_reg
  have hrg := Tryz.underlying59
  have hO2 : Hid (∀ p W, CodeAt W (some p) 15 workR13 → Calls Tryz.prog 38 #[.slice (some p) 15 15, .int .i64 2] W fun e W' => e = .returned (.tuple #[.agg #[.int .i64 13, .int .u64 4, .int .u64 14, .int .i64 0, .int .i64 2, .int .i64 1], .bool true]) ∧ Below W.heap.size W W') := qh fun p W h => by
    have := ofR_any 2 W h (by decide)
    rw [workR132o] at this
    exact this
  have hO7 : Hid (∀ p W, CodeAt W (some p) 15 workR13 → Calls Tryz.prog 38 #[.slice (some p) 15 15, .int .i64 7] W fun e W' => e = .returned (.tuple #[.agg #[.int .i64 0, .int .u64 0, .int .u64 0, .int .i64 0, .int .i64 0, .int .i64 0], .bool false]) ∧ Below W.heap.size W W') := qh fun p W h => by
    have := ofR_any 7 W h (by decide)
    rw [workR137o] at this
    exact this
  have hW2 : Hid (∀ p W, CodeAt W (some p) 15 workR13 → Calls Tryz.prog 66 #[.slice (some p) 15 15, .int .i64 2] W fun e W' => (∃ q c, e = .returned (.slice q 2 c) ∧ IntsAt W' q c [3, 10]) ∧ Below W.heap.size W W') := qh fun p W h => by
    have := withinR_any 2 W h (by decide) workR132s
    rw [workR132k] at this
    exact this
  have hF3 : Hid (∀ W, Calls Tryz.prog 37 #[.agg #[.int .i64 13, .int .u64 4, .int .u64 14, .int .i64 0, .int .i64 2, .int .i64 1], .int .i64 3, .int .i64 4] W fun e W' => e = .returned (.bool false) ∧ Below W.heap.size W W') := qh fun W => fits_any 13 0 2 1 4 14 3 4 W (by omega) (by omega) (by omega) (by omega)
  have hF0 : Hid (∀ W, Calls Tryz.prog 37 #[.agg #[.int .i64 13, .int .u64 4, .int .u64 14, .int .i64 0, .int .i64 2, .int .i64 1], .int .i64 0, .int .i64 2] W fun e W' => e = .returned (.bool true) ∧ Below W.heap.size W W') := qh fun W => fits_any 13 0 2 1 4 14 0 2 W (by omega) (by omega) (by omega) (by omega)
  have heq : ∀ W, (binOp .eql 59 (.agg #[.int .i64 13, .int .u64 4, .int .u64 14, .int .i64 0, .int .i64 2, .int .i64 1]) (.agg #[.int .i64 13, .int .u64 4, .int .u64 14, .int .i64 0, .int .i64 2, .int .i64 1])).run Tryz.prog W = .ok (.bool true) W := fun W => by kernel_rfl
  have tk1 : Hid True := qh trivial
  go_enter Tryz.func36, Tryz.ntmps36
  go_wp2_with (first
    | (go_at_call 65; clear tk1; refine (sides13_any _).mono ?_; rintro e w1 ⟨⟨p1, rfl, hC1⟩, hb1⟩; replace hC1 := qh hC1; replace hb1 := qh hb1)
    | (go_at_call 38; (with_reducible refine (hO2.out p1 _ hC1.out).mono ?_); rintro e w2 ⟨rfl, hb2⟩; replace hb2 := qh (xtrans hb1.out hb2); clear hC1)
    | (refine wpList_store_blkG rfl 59 _ _ rfl w2.heap.size rfl 59 r13Z [.int .i64 13, .int .u64 4, .int .u64 14, .int .i64 0, .int .i64 2, .int .i64 1] (BlkG.new w2 _ _) rfl rfl (by kernel_rfl) rfl ?_; intro w3 hX3 ho3; have hb3 := ho3.below (xalloc (xrefl w2) _) (xalloc (xrefl w2) _).size (by rintro k rfl; exact Nat.le_refl _); replace hX3 := qh hX3; replace hb3 := qh (xtrans hb2.out hb3); clear ho3)
    | (go_at_call 65; clear hb2; refine (sides13_any _).mono ?_; rintro e w4 ⟨⟨p2, rfl, hC4⟩, hb4⟩; have hX4 := qh (hX3.out.below hb4); replace hC4 := qh hC4; replace hb4 := qh (xtrans hb3.out hb4))
    | (go_at_call 38; (with_reducible refine (hO7.out p2 _ hC4.out).mono ?_); rintro e w5 ⟨rfl, hb5⟩; have hX5 := qh (hX4.out.below hb5); replace hb5 := qh (xtrans hb4.out hb5); clear hC4)
    | (refine wpList_store_blkG rfl 59 _ _ rfl w5.heap.size rfl 59 r13Z r13Z (BlkG.new w5 _ _) rfl rfl (by kernel_rfl) rfl ?_; intro w6 hX6 ho6; have hb6 := ho6.below (xalloc (xrefl w5) _) (xalloc (xrefl w5) _).size (by rintro k rfl; exact Nat.le_refl _); replace hX6 := qh (hX5.out.below hb6); replace hb6 := qh (xtrans hb5.out hb6); clear ho6)
    | (refine wpList_load_blkG_g rfl 59 _ rfl w2.heap.size rfl 59 [.int .i64 13, .int .u64 4, .int .u64 14, .int .i64 0, .int .i64 2, .int .i64 1] _ hX6.out hrg rfl (by kernel_rfl) ?_)
    | (go_at_call 65; clear hb5; refine (sides13_any _).mono ?_; rintro e w7 ⟨⟨p3, rfl, hC7⟩, hb7⟩; have hX7 := qh (hX6.out.below hb7); replace hC7 := qh hC7; replace hb7 := qh (xtrans hb6.out hb7))
    | (go_at_call 66; (with_reducible refine (hW2.out p3 _ hC7.out).mono ?_); rintro e w8 ⟨⟨q8, c8, rfl, hI8⟩, hb8⟩; have hX8 := qh (hX7.out.below hb8); replace hb8 := qh (xtrans hb7.out hb8); have hI8b := qh (hI8.below (xalloc (xrefl w8) (.cells #[.int .i64 3, .int .i64 10] 3))); have hI9 : Hid (IntsAt (w8.alloc (.cells #[.int .i64 3, .int .i64 10] 3)) (some ⟨w8.heap.size, 0, none⟩) 2 [3, 10]) := qh ⟨rowAt_new w8 _ (natI [3, 10]), fun e => (by cases e)⟩; have hX9 := qh (hX8.out.below (xalloc (xrefl w8) (.cells #[.int .i64 3, .int .i64 10] 3))); have hb9 := qh (xalloc hb8.out (.cells #[.int .i64 3, .int .i64 10] 3)); clear hI8)
    | (go_at_call 22; refine (refInts_any [3, 10] [3, 10] _ _ _ _ _ hI8b.out hI9.out (by decide) (by decide)).mono ?_; rintro e w10 ⟨rfl, k7, hk7⟩; rw [decide_eq_true rfl]; have hbt : Below (w8.alloc (.cells #[.int .i64 3, .int .i64 10] 3)).heap.size (w8.alloc (.cells #[.int .i64 3, .int .i64 10] 3)) w10 := (by rw [hk7]; exact xdrewN (xrefl _) k7); have hX10 := qh (hX9.out.below hbt); have hb10 := qh (xtrans hb9.out hbt); clear hk7 hbt hb6 hX6)
    | (refine wpList_load_blkG_g rfl 59 _ rfl w2.heap.size rfl 59 [.int .i64 13, .int .u64 4, .int .u64 14, .int .i64 0, .int .i64 2, .int .i64 1] _ hX10.out hrg rfl (by kernel_rfl) ?_; clear hb9 hX9)
    | (go_at_call 37; (with_reducible refine (hF3.out _).mono ?_); rintro e w11 ⟨rfl, hb11⟩; have hX11 := qh (hX10.out.below hb11); replace hb11 := qh (xtrans hb10.out hb11); clear hX10)
    | (refine wpList_load_blkG_g rfl 59 _ rfl w2.heap.size rfl 59 [.int .i64 13, .int .u64 4, .int .u64 14, .int .i64 0, .int .i64 2, .int .i64 1] _ hX11.out hrg rfl (by kernel_rfl) ?_)
    | (go_at_call 37; (with_reducible refine (hF0.out _).mono ?_); rintro e w12 ⟨rfl, hb12⟩; replace hb12 := qh (xtrans hb11.out hb12)))
  go_ret
  exact ⟨rfl, hb12.out⟩
end
section
open Go.RowKit Go.Shelf
attribute [local go_sem] Oper.semAt_some
end
section
open Go.RowKit Go.Shelf
attribute [local go_sem] Oper.semAt_some
end
section
open Go.ChangeShapes Go.WideShapes Go.ChangeAt Go.RowKit
open Go.ChangeMaps (open_string shut_string)
def Yes (w : World) (e : Ending) (w' : World) : Prop := e = .returned (.bool true) ∧ Below w.heap.size w w'
section
variable {H : Type} {enc : TypeId × Value → H} {P : Program} {w : World} {base : Nat} {spare : Nat → Bool} {held : Bool} {t e : TypeId} {fuel : Nat} {cs : List Value} {x : DataW H × List MemPlace}
theorem trod_row {q : IntKind} {v : Value} (ht : P.underlying t = some (.slice e)) (he : P.underlying e = some (.int q)) (hc : P.cellsOf e = 1) (h : DataW.trod enc P w base spare held fuel t [v] = some x) :
    ∃ a c zs, v = .slice a zs.length c ∧ RowAt q w a zs ∧ (a = none → c = 0) ∧ zs.length ≤ 9223372036854775807 ∧ ∀ z ∈ zs, (Lit.int q z).wf = true := by
  rcases open_ints ht he hc h with ⟨hcs, _⟩ | ⟨a, len, cap, zs, hcs, _, hl, hm, hz, _, hcell, hw⟩
  · simp only [List.cons.injEq, and_true] at hcs
    exact ⟨none, 0, [], hcs, RowAt.nil, fun _ => rfl, by simp, by simp⟩
  · simp only [List.cons.injEq, and_true] at hcs
    have hlz : len ≤ zs.length := by split at hz <;> omega
    refine ⟨some a, cap, zs.take len, by rw [hcs, List.length_take, Nat.min_eq_left hlz], fun i hi => ?_, by simp, ?_, fun z hz => hw z (List.mem_of_mem_take hz)⟩
    · rw [List.length_take] at hi
      have hcl := hcell i (by omega)
      obtain ⟨b, o, s⟩ := a
      have h0 := hcell 0 (by omega)
      have hs : s = none := by simpa [Addr.add] using World.cell?_spot h0
      subst hs
      refine ⟨b, o, rfl, ?_⟩
      rw [Addr.add_lit] at hcl
      rw [hcl, List.getElem_take, List.getD_eq_getElem?_getD, List.getElem?_eq_getElem (by omega)]
      rfl
    · unfold maxLen at hm
      rw [List.length_take]; omega
end
end
section
open Go.ChangeShapes Go.WideShapes Go.ChangeAt Go.RowKit
variable {H : Type} {enc : TypeId × Value → H} {P : Program} {w : World} {base : Nat} {spare : Nat → Bool} {held : Bool} {t e : TypeId} {fuel : Nat} {cs : List Value} {x : DataW H × List MemPlace}
theorem trod_row2 {q : IntKind} {v : Value} (ht : P.underlying t = some (.slice e)) (he : P.underlying e = some (.int q)) (hc : P.cellsOf e = 1) (h : DataW.trod enc P w base spare held fuel t [v] = some x) :
    ∃ a c zs, v = .slice a zs.length c ∧ RowAt q w a zs ∧ (a = none → c = 0) ∧ (zs.length ≤ c ∧ c ≤ 9223372036854775807) ∧ ∀ z ∈ zs, (Lit.int q z).wf = true := by
  obtain ⟨a, c, zs, h1, h2, h3, h4, h5⟩ := trod_row ht he hc h
  refine ⟨a, c, zs, h1, h2, h3, ?_, h5⟩
  rcases open_ints ht he hc h with ⟨hcs, _⟩ | ⟨a', len, cap, zs', hcs, _, hl, hm, _⟩
  · simp only [List.cons.injEq, and_true] at hcs
    rw [h1] at hcs
    injection hcs with e1 e2 e3
    omega
  · simp only [List.cons.injEq, and_true] at hcs
    rw [h1] at hcs
    injection hcs with e1 e2 e3
    unfold maxLen at hm
    omega
end
end Go.Proofs.YtijkdabmegbcjaaGreatDoor
