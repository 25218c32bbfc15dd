/- The program's digest (layer 23): slices.Chunk of bytes, by 64. -/
import Derived.Test.YtfafancacfjodaaIter
import Derived.Test.YtfafancacfjodaaRowNew
import Derived.Test.YtfafancacfjodaaAppB
namespace Go.Proofs.Ytfafancacfjodaa
open Go.RowKit Go.Shelf
attribute [local go_sem] Oper.semAt_some

theorem chunk_any (a : Option Addr) (n c : Nat) (w : World) :
    Calls Try.prog 32 #[.slice a n c, .int .i64 64] w fun e w' => e = .returned (.func (.func 44) #[] #[.pointer (some ⟨w.heap.size, 0, none⟩), .pointer (some ⟨w.heap.size + 1, 0, none⟩)]) ∧
      (w.alloc (.cells #[.slice a n c] 22)).alloc (.cells #[.int .i64 64] 3) = w' := by
  go_enter Try.func32, Try.ntmps32
  go_wp2
  go_ret
  exact ⟨rfl, rfl⟩

abbrev Ix (nb : Nat) := { k : Nat // k < nb }
def valsI {nb : Nat} (l : List (Ix nb)) : List Nat := l.map (·.1)

set_option maxRecDepth 100000 in
set_option maxHeartbeats 1000000 in
theorem chunk_seq (sb xb pb po nb pc : Nat) (W : World) (hs : W.cell? ⟨sb, 0, none⟩ = some (.slice (some ⟨pb, po, none⟩) (64 * nb) pc)) (hx : W.cell? ⟨xb, 0, none⟩ = some (.int .i64 64)) (hnb : nb < 100000) (hpc : 64 * nb ≤ pc) (hpc2 : pc ≤ 9223372036854775807) :
    SeqB Try.prog 44 #[.pointer (some ⟨sb, 0, none⟩), .pointer (some ⟨xb, 0, none⟩)] (fun x : Ix nb => #[.slice (some ⟨pb, po + 64 * x.1, none⟩) 64 64]) (fun k => k = sb ∨ k = xb) (fun xs => valsI xs = List.range nb) (fun pre => ∃ k, k ≤ nb ∧ valsI pre = List.range k) (nb + 1) false W := by
  intro l J Jx hJ hJx hY h0 _
  replace hJ := Lib.hid hJ
  replace hY := Lib.hid hY
  refine callsIn_of_wp Try.func44 rfl trivial ?_ rfl
  simp only [Try.ntmps44, List.size_toArray, List.length_cons, List.length_nil, Nat.reduceAdd, Nat.reduceSub, Array.replicate_succ, Array.replicate_zero, List.push_toArray, List.append_toArray, List.nil_append, List.cons_append]
  gi_wp2
  gi_loopw [4] (fun iv wr => ∃ (k : Nat) (pre : List (Ix nb)), k ≤ nb ∧ iv = .int .i64 ((64 * k : Nat) : Int) ∧ valsI pre = List.range k ∧ J (fun _ => False) pre wr ∧ Keep (fun k => k = sb ∨ k = xb) W wr) (fun iv wr => 64 * nb + 1 - (intOf iv).toNat)
  case atStart => exact ⟨0, [], by omega, rfl, rfl, h0, Keep.refl _ _⟩
  case round =>
    obtain ⟨k, pre, hk, rfl, hpre, hJs, hkp⟩ := hrel
    have cs := hkp.cell hs (.inl rfl)
    have cx := hkp.cell hx (.inr rfl)
    obtain ⟨M, hM⟩ : ∃ M, M = 64 * k := ⟨_, rfl⟩
    obtain ⟨NB, hNB⟩ : ∃ NB, NB = 64 * nb := ⟨_, rfl⟩
    rw [← hM]
    rw [← hNB] at cs hpc ⊢
    have hpl : pre.length = k := by have := congrArg List.length hpre; simpa [valsI] using this
    replace hpre := Lib.hid hpre
    by_cases hlt : k < nb
    · have hMN : M + 64 ≤ NB := by omega
      replace hM := Lib.hid hM
      replace hNB := Lib.hid hNB
      replace hpl := Lib.hid hpl
      gi_wp2
      refine wpIn_wide.2 ?_
      go_quiet (fail)
      have hJd := hJ.out _ (fun _ => False) pre wr (wr.drewN nq) hJs (fun k h => h.elim) (Below.only (xdrewN (xrefl wr) nq)) (fun k h => h.elim)
      have hkd : Keep (fun k => k = sb ∨ k = xb) W (wr.drewN nq) := hkp.trans ⟨Nat.le_refl _, fun _ _ _ => rfl⟩
      obtain ⟨fn, tmps, assign, body, hy, hR⟩ := hY.out (fun _ => False) pre ⟨k, hlt⟩ (wr.drewN nq) (fun k h => h.elim) hJd (by rw [hpl.out]; omega)
      dsimp only at hy
      rw [← hM.out] at hy
      have e1 : (M : Int) + 64 ≤ (NB : Int) := by omega
      have e2 : NB ≤ 9223372036854775807 := by omega
      gi_wp2
      refine ⟨rfl, hR.mono ?_⟩
      rintro e W3 (⟨rfl, hJ3, hk3⟩ | ⟨rfl, hJx3, hk3⟩)
      · have hkw : Keep (fun k => k = sb ∨ k = xb) W W3 := hkd.trans (hk3.mono fun k _ h => .inr h)
        have cs3 := hkw.cell hs (.inl rfl)
        have cx3 := hkw.cell hx (.inr rfl)
        rw [← hNB.out] at cs3
        gi_wp2
        refine ⟨⟨k + 1, pre ++ [⟨k, hlt⟩], by omega, ?_, ?_, hJ3, hkw⟩, ?_⟩
        · have := hM.out; congr 1; omega
        · rw [List.range_succ, ← hpre.out]; simp [valsI]
        · simp [intOf]; omega
      · gi_wp2
        refine bodyPost_ret (results_none rfl _ _ _) rfl ?_
        refine ⟨⟨_, rfl⟩, .inr ⟨_, _, ⟨k + 1, by omega, ?_⟩, fun k h => h.elim, hJx3⟩⟩
        rw [List.range_succ, ← hpre.out]; simp [valsI]
    · have hkn : k = nb := by omega
      have hMN : M = NB := by omega
      replace hM := Lib.hid hM
      replace hNB := Lib.hid hNB
      subst hkn hMN
      gi_wp2
      go_end0
      exact ⟨⟨_, rfl⟩, .inl ⟨pre, _, hpre.out, fun k h => h.elim, hJs⟩⟩
end Go.Proofs.Ytfafancacfjodaa
