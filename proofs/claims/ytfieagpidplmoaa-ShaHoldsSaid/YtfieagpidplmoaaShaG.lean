/- The program's digest (layer 23): the primes, one after the other. -/
import Derived.Test.YtfieagpidplmoaaShaF
import Derived.Test.YtfieagpidplmoaaAppB
import Derived.Maps.AppendAt
namespace Go.Proofs.Ytfieagpidplmoaa
open Go.RowKit Go.Shelf
attribute [local go_sem] Oper.semAt_some

/-- The primes below n, as they are found. -/
def pl : Nat → List Nat
  | 0 => []
  | n + 1 => if n < 2 then [] else if (pl n).any (divs n) then pl n else pl n ++ [n]
theorem pl_yes {n : Nat} (h : 2 ≤ n) (hd : (pl n).any (divs n) = true) : pl (n + 1) = pl n := by rw [pl, if_neg (by omega), if_pos hd]
theorem pl_no {n : Nat} (h : 2 ≤ n) (hd : (pl n).any (divs n) = false) : pl (n + 1) = pl n ++ [n] := by rw [pl, if_neg (by omega), if_neg (by simp [hd])]
theorem pl_prefix (n : Nat) : ∀ k, 2 ≤ n → pl n <+: pl (n + k)
  | 0, _ => List.prefix_refl _
  | k + 1, h => by
    refine (pl_prefix n k h).trans ?_
    cases hd : (pl (n + k)).any (divs (n + k))
    · rw [← Nat.add_assoc, pl_no (by omega) hd]; exact List.prefix_append _ _
    · rw [← Nat.add_assoc, pl_yes (by omega) hd]; exact List.prefix_refl _
theorem pl_pos : ∀ n p, p ∈ pl n → 2 ≤ p ∧ p < n
  | 0, p, h => by cases h
  | n + 1, p, h => by
    rw [pl] at h
    split at h
    · cases h
    · split at h
      · have := pl_pos n p h; omega
      · rcases List.mem_append.1 h with h | h
        · have := pl_pos n p h; omega
        · simp at h; omega
theorem pl_big : (pl 314).length = 65 := by decide +kernel
theorem pl_bound (n : Nat) (h : (pl n).length < 65) : n < 314 := by
  refine Classical.byContradiction fun hn => ?_
  obtain ⟨k, rfl⟩ : ∃ k, n = 314 + k := ⟨n - 314, by omega⟩
  have := (pl_prefix 314 k (by omega)).length_le
  rw [pl_big] at this
  omega

abbrev Prm := { p : Nat // p < 65536 }
def valsP (l : List Prm) : List Nat := l.map (·.1)
theorem primes_any (w : World) : Calls Try.prog 37 #[] w fun e w' => e = .returned (.func (.func 45) #[] #[]) ∧ w = w' := by
  go_enter Try.func37, Try.ntmps37
  go_wp2
  go_ret
  exact ⟨rfl, rfl⟩

theorem Try.infoU64 : (Try.prog.info? 43).map (fun i => (i.zero, i.size, i.bytes)) = some (some (.int .u64 0), 1, 8) := by kernel_rfl
theorem own_keepO {w w' : World} {base : Nat} {e : TypeId} {size : Nat} {v : Value} {n : Nat} {xs : List Value} {O : Nat → Prop} (h : w.ownsRow base e size v n xs) (hk : Keep O w w') (hO : ∀ k, v.ownBlock = some k → O k) : w'.ownsRow base e size v n xs := by
  refine ⟨h.1, ?_⟩
  rcases h.2 with hn | ⟨g, cap, cur, rfl, hb, hgg, rest⟩
  · exact .inl hn
  · exact .inr ⟨g, cap, cur, rfl, hb, (hk.same g (Array.getElem?_eq_some_iff.1 hgg).1 (hO g rfl)).trans hgg, rest⟩
def boxN (w : World) : Value → Nat
  | .pointer (some a) => match w.cell? a with
    | some (.int _ n) => n.toNat
    | _ => 0
  | _ => 0

set_option maxRecDepth 100000 in
set_option maxHeartbeats 1000000 in
theorem primes_seq (W : World) : SeqB Try.prog 45 #[] (fun x : Prm => #[.int .u64 (x.1 : Int)]) (fun _ => False) (fun _ => False) (fun pre => ∃ n, valsP pre = pl n) 65 true W := by
  intro l J Jx hJ hJx hY h0 hinf
  replace hinf := Lib.hid (hinf rfl)
  replace hJ := Lib.hid hJ
  replace hY := Lib.hid hY
  obtain ⟨i0, hi, hz0, hz1, hz2⟩ := info_parts Try.infoU64
  have h0' : J (fun k => k = W.heap.size) [] (W.alloc (.cells #[.int .u64 2] 43)) := hJ.out _ _ _ _ _ h0 (fun k h => h.elim) ((Only.refl _ W).alloc _) (fun k h => .inr (by omega))
  have hc0 : (W.alloc (.cells #[.int .u64 2] 43)).cell? ⟨W.heap.size, 0, none⟩ = some (.int .u64 2) := by simp [go_sem]
  have hf0 : (W.alloc (.cells #[.int .u64 2] 43)).frozen? ⟨W.heap.size, 0, none⟩ = false := by simp [go_sem]
  refine callsIn_of_wp Try.func45 rfl trivial ?_ rfl
  simp only [Try.ntmps45, List.size_toArray, List.length_cons, List.length_nil, Nat.reduceAdd, Nat.reduceSub, Array.replicate_succ, Array.replicate_zero, List.push_toArray, List.append_toArray, List.nil_append, List.cons_append]
  gi_wp2
  gi_loopw [2, 3] (fun v p wr => ∃ (n b : Nat) (pre : List Prm) (O : Nat → Prop), 2 ≤ n ∧ p = .pointer (some ⟨b, 0, none⟩) ∧ valsP pre = pl n ∧ J O pre wr ∧ (∀ k, O k → W.heap.size ≤ k ∧ k < wr.heap.size) ∧ O b ∧ (∀ k, v.ownBlock = some k → O k ∧ k ≠ b) ∧
      wr.ownsRow W.heap.size 43 1 v pre.length ((natsI (valsP pre)).map (Value.int .u64)) ∧ wr.cell? ⟨b, 0, none⟩ = some (.int .u64 (n : Int)) ∧ wr.frozen? ⟨b, 0, none⟩ = false ∧ W.heap.size ≤ wr.heap.size) (fun v p wr => 400 - boxN wr p)
  case atStart =>
    exact ⟨2, W.heap.size, [], _, by omega, rfl, by decide +kernel, h0', (fun k h => by subst h; simp), rfl, (fun k h => by cases h), World.ownsRow_nil _ _ _ _, hc0, hf0, by simp⟩
  case round =>
    clear h0' hc0 hf0
    obtain ⟨n, b, pre, O, hn2, rfl, hpre, hJs, hO, hOb, hOv, hown, hc, hf, hsz⟩ := hrel
    have hlen := hinf.out _ _ _ hJs
    have hpl : pre.length = (pl n).length := by rw [← hpre]; simp [valsP]
    rw [hpre, hpl] at hown
    have hn3 : n < 314 := pl_bound n (by omega)
    have hpos : ∀ p ∈ pl n, 0 < p := fun p hp => by have := pl_pos n p hp; omega
    have hyes := fun h => pl_yes hn2 h
    have hno := fun h => pl_no hn2 h
    rw [hpl] at hlen
    generalize hLd : pl n = L at *
    obtain ⟨a, c, rfl, hr, hnil, hge, -⟩ := rowAt_own hown
    simp only [natsI_len] at hown hOv ⊢
    have hcall := contains_any n b L a c wr (by omega) hpos hr hc
    have hbox : boxN wr (.pointer (some ⟨b, 0, none⟩)) = n := by simp [boxN, hc]
    replace hbox := Lib.hid hbox
    replace hpos := Lib.hid hpos
    replace hr := Lib.hid hr
    replace hO := Lib.hid hO
    replace hOv := Lib.hid hOv
    replace hyes := Lib.hid hyes
    replace hno := Lib.hid hno
    replace hpre := Lib.hid hpre
    replace hpl := Lib.hid hpl
    replace hLd := Lib.hid hLd
    replace hnil := Lib.hid hnil
    replace hge := Lib.hid hge
    cases hd : L.any (divs n)
    · rw [hd] at hcall
      replace hcall := Lib.hid hcall
      have hfit : n < 65536 := by omega
      have hin : W.heap.size ≤ (wr.alloc (.cells #[.int .u64 n] 43)).heap.size := by rw [World.size_alloc]; omega
      have hblt := cell_lt hc
      have hnext : ∀ (v' : Value) (w1 : World), w1.ownsRow W.heap.size 43 1 v' (L.length + 1) ((natsI L).map (Value.int .u64) ++ [.int .u64 n]) → (wr.alloc (.cells #[.int .u64 n] 43)).grownBy w1 (Value.slice a L.length c).ownBlock →
          (v'.ownBlock = (Value.slice a L.length c).ownBlock ∨ ∀ k, v'.ownBlock = some k → (wr.alloc (.cells #[.int .u64 n] 43)).heap.size ≤ k) →
          w1.cell? ⟨b, 0, none⟩ = some (.int .u64 n) ∧ w1.frozen? ⟨b, 0, none⟩ = false ∧ (∀ k, (O k ∨ v'.ownBlock = some k) → W.heap.size ≤ k ∧ k < w1.heap.size) ∧ J (fun k => O k ∨ v'.ownBlock = some k) pre w1 ∧ wr.heap.size + 1 ≤ w1.heap.size ∧ (∀ k, v'.ownBlock = some k → k ≠ b) := by
        intro v' w1 h1 h2 h3
        have hs2 := h2.size
        rw [World.size_alloc] at hs2 h3
        have hnb : some b ≠ (Value.slice a L.length c).ownBlock := fun e => (hOv.out b e.symm).2 rfl
        have hin1 : ∀ k, (O k ∨ v'.ownBlock = some k) → O k ∨ wr.heap.size ≤ k := fun k h => by
          rcases h with h | h
          · exact .inl h
          · rcases h3 with e | e
            · rw [e] at h; exact .inl (hOv.out k h).1
            · exact .inr (by have := e k h; omega)
        have honl : Only O wr w1 := ⟨h2.os, h2.tape, h2.output, by omega, fun k hk hn => (h2.block k (by rw [World.size_alloc]; omega) (fun e => hn (hOv.out k e.symm).1)).trans (Below.heap_alloc wr _ k hk)⟩
        refine ⟨h2.cell (ca _ hc) hnb, (World.frozen?_of_block (h2.block b (by rw [World.size_alloc]; exact Nat.lt_succ_of_lt hblt) hnb)).trans (fa _ hc hf), fun k h => ?_, hJ.out O _ pre wr w1 hJs (fun k h => (hO.out k h).1) honl hin1, hs2, fun k hk e => ?_⟩
        · rcases h with h | h
          · have := hO.out k h; omega
          · have := h1.lt k h; omega
        · subst e
          rcases h3 with e | e
          · rw [e] at hk; exact (hOv.out k hk).2 rfl
          · have := e k hk; simp only at hblt; omega
      replace hnext := Lib.hid hnext
      gi_wp2_with (first
        | (refine ⟨trivial, rfl, ?_⟩; gi_at_call 46; refine (callsIn_wide.2 hcall.out).mono ?_; rintro e w' ⟨rfl, rfl⟩)
        | (gi_at_builtin; refine wpListIn_append_blk _ rfl _ _ 83 rfl W.heap.size 43 i0 (.int .u64 0) 8 Try.underlying83 hi hz0 hz1 hz2 rfl (.slice a L.length c) L.length _ rfl (hown.alloc _) ⟨wr.heap.size, 0, none⟩ 1 1 [.int .u64 n] rfl rfl (cell_one_new _ _ _) (by simp [Value.oneCell']) (by unfold maxLen; omega) (by omega) hin ?_; intro v' w1 hown' hgrow hblk; obtain ⟨hc1, hf1, hO1, hJ1, hs1, hv1⟩ := hnext v' w1 hown' hgrow hblk; obtain ⟨fn, tmps, assign, body, hy, hR⟩ := hY.out (fun k => O k ∨ v'.ownBlock = some k) pre ⟨n, hfit⟩ w1 hO1 hJ1 (by rw [hpl.out]; exact hlen)))
      refine ⟨rfl, hR.mono ?_⟩
      rintro e W3 (⟨rfl, hJ3, hk3⟩ | ⟨rfl, hJx3, hk3⟩)
      · have hc3 : W3.cell? ⟨b, 0, none⟩ = some (.int .u64 (n : Int)) := hk3.cell hc1 (.inl (.inl hOb))
        have hf3 : W3.frozen? ⟨b, 0, none⟩ = false := hk3.frozen hc1 hf1 (.inl (.inl hOb))
        have hown3 := own_keepO hown' hk3 (fun k hk => .inl (.inr hk))
        have hs3 := hk3.size
        have hO3 : ∀ k, (O k ∨ v'.ownBlock = some k) → W.heap.size ≤ k ∧ k < W3.heap.size := fun k h => by have := hO1 k h; omega
        have hnl := hJ.out (fun k => O k ∨ v'.ownBlock = some k) (fun k => (O k ∨ v'.ownBlock = some k) ∨ k = W3.heap.size) (pre ++ [⟨n, hfit⟩]) W3 (W3.alloc (.cells #[.int .u64 (n + 1 : Int)] 43)) hJ3 (fun k h => (hO3 k h).1) (Below.only (xalloc (xrefl W3) _)) (fun k h => h.elim .inl fun e => .inr (Nat.le_of_eq e.symm))
        replace hnl := Lib.hid hnl
        replace hO3 := Lib.hid hO3
        replace hv1 := Lib.hid hv1
        clear hk3 hO1 hJ1 hnext hgrow hblk hown' hown hJ3 hJs hc1 hf1 hc hf hy hR hcall
        gi_wp2
        have hcn : (W3.alloc (.cells #[.int .u64 (n + 1 : Int)] 43)).cell? ⟨W3.heap.size, 0, none⟩ = some (.int .u64 ((n + 1 : Nat) : Int)) := by simp [go_sem]
        have hfn : (W3.alloc (.cells #[.int .u64 (n + 1 : Int)] 43)).frozen? ⟨W3.heap.size, 0, none⟩ = false := by simp [go_sem]
        refine ⟨⟨n + 1, W3.heap.size, pre ++ [⟨n, hfit⟩], _, by omega, rfl, ?_, hnl.out, fun k h => ?_, .inr rfl, fun k hk => ?_, ?_, hcn, hfn, by rw [World.size_alloc]; omega⟩, ?_⟩
        · rw [hno.out hd, ← hpre.out]; simp [valsP]
        · rw [World.size_alloc]
          rcases h with h | h
          · have := hO3.out k h; omega
          · omega
        · have := hO3.out k (.inr hk)
          exact ⟨.inl (.inr hk), by omega⟩
        · have e1 : natsI (valsP (pre ++ [⟨n, hfit⟩])) = natsI L ++ [(n : Int)] := by rw [← hpre.out]; simp [valsP, natsI]
          rw [e1, List.length_append, hpl.out, List.map_append]
          exact hown3.alloc _
        · rw [hbox.out]
          simp only [boxN, hcn]
          omega
      · gi_wp2
        refine bodyPost_ret (results_none rfl _ _ _) rfl ?_
        refine ⟨⟨_, rfl⟩, .inr ⟨_, _, ⟨n + 1, ?_⟩, fun k h => (hO1 k h).1, hJx3⟩⟩
        rw [hno.out hd, ← hpre.out]; simp [valsP]
    · rw [hd] at hcall
      replace hcall := Lib.hid hcall
      have hnl := hJ.out O (fun k => O k ∨ k = wr.heap.size) pre wr (wr.alloc (.cells #[.int .u64 (n + 1 : Int)] 43)) hJs (fun k h => (hO.out k h).1) (Below.only (xalloc (xrefl wr) _)) (fun k h => h.elim .inl fun e => .inr (Nat.le_of_eq e.symm))
      replace hnl := Lib.hid hnl
      gi_wp2_with (refine ⟨trivial, rfl, ?_⟩; gi_at_call 46; refine (callsIn_wide.2 hcall.out).mono ?_; rintro e w' ⟨rfl, rfl⟩)
      have hcn : (wr.alloc (.cells #[.int .u64 (n + 1 : Int)] 43)).cell? ⟨wr.heap.size, 0, none⟩ = some (.int .u64 ((n + 1 : Nat) : Int)) := by simp [go_sem]
      have hfn : (wr.alloc (.cells #[.int .u64 (n + 1 : Int)] 43)).frozen? ⟨wr.heap.size, 0, none⟩ = false := by simp [go_sem]
      refine ⟨⟨n + 1, wr.heap.size, pre, _, by omega, rfl, by rw [hpre.out, hyes.out hd], hnl.out, fun k h => ?_, .inr rfl, fun k hk => ?_, ?_, hcn, hfn, by rw [World.size_alloc]; omega⟩, ?_⟩
      · rw [World.size_alloc]
        rcases h with h | h
        · have := hO.out k h; omega
        · omega
      · obtain ⟨h1, h2⟩ := hOv.out k hk
        have := hO.out k h1
        exact ⟨.inl h1, by omega⟩
      · rw [hpre.out, hpl.out]; exact hown.alloc _
      · rw [hbox.out]
        simp only [boxN, hcn]
        omega
end Go.Proofs.Ytfieagpidplmoaa
