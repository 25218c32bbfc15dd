/- Texts of this claim, merged; no condition. -/
import Derived.Test.YtijkdabmegbcjaaGreatDoorT39
import Derived.Deep.CutRange
import Derived.Deep.AppendSrc
import Derived.Deep.Upon
import Derived.Test.YtijkdabmegbcjaaGreatDoorT38
import Derived.Test.YtijkdabmegbcjaaGreatDoorT29
import Derived.Test.YtijkdabmegbcjaaGreatDoorT37
import Derived.Test.YtijkdabmegbcjaaGreatDoorTA
set_option linter.all false
namespace Go.Proofs.YtijkdabmegbcjaaGreatDoor
section
theorem least_ex {p : Nat → Prop} (h : ∃ n, p n) : ∃ n, p n ∧ ∀ m, p m → n ≤ m := by
  obtain ⟨n, hn⟩ := h
  have key : ∀ n, p n → ∃ n, p n ∧ ∀ m, p m → n ≤ m := by
    intro n
    induction n using Nat.strongRecOn with
    | _ n ih =>
      intro hn
      by_cases e : ∃ m, m < n ∧ p m
      · obtain ⟨m, h1, h2⟩ := e
        exact ih m h1 h2
      · exact ⟨n, hn, fun m hm => Nat.le_of_not_lt fun hlt => e ⟨m, hlt, hm⟩⟩
  exact key n hn
open Classical in
noncomputable def leastN (p : Nat → Prop) : Nat := if h : ∃ n, p n then Classical.choose (least_ex h) else 0
theorem leastN_in {p : Nat → Prop} (h : ∃ n, p n) : p (leastN p) := by
  unfold leastN
  rw [dif_pos h]
  exact (Classical.choose_spec (least_ex h)).1
theorem leastN_le {p : Nat → Prop} {n : Nat} (h : p n) : leastN p ≤ n := by
  unfold leastN
  rw [dif_pos ⟨n, h⟩]
  exact (Classical.choose_spec (least_ex ⟨n, h⟩)).2 n h
def lotS (F : Nat → Option (List Nat)) (Ke : List Nat) (B : BlkN) (i : Nat) : List (List Nat) := (if B.exit then [[]] else []) ++ ((B.next.take i).filter fun k => decide (k ∈ Ke)).map fun k => (F k).getD []
def opP (F : Nat → Option (List Nat)) (Ke : List Nat) (B : BlkN) (x : Nat) : Prop := x = B.first ∨ ∀ K ∈ lotS F Ke B B.next.length, x ∈ K
theorem mem_lot {F : Nat → Option (List Nat)} {Ke : List Nat} {B : BlkN} {K : List Nat} : K ∈ lotS F Ke B B.next.length ↔ (B.exit = true ∧ K = []) ∨ ∃ k ∈ B.next, k ∈ Ke ∧ (F k).getD [] = K := by
  unfold lotS
  rw [List.take_length, List.mem_append, List.mem_map]
  constructor
  · rintro (h | ⟨k, h1, h2⟩)
    · cases e : B.exit with
      | true => rw [e] at h; exact .inl ⟨rfl, by simpa using h⟩
      | false => rw [e] at h; simp at h
    · rw [List.mem_filter, decide_eq_true_eq] at h1
      exact .inr ⟨k, h1.1, h1.2, h2⟩
  · rintro (⟨h1, h2⟩ | ⟨k, h1, h2, h3⟩)
    · rw [h1, h2]; exact .inl (by simp)
    · exact .inr ⟨k, List.mem_filter.2 ⟨h1, decide_eq_true h2⟩, h3⟩
structure Shr (bs : List BlkN) (Ke : List Nat) (F : Nat → Option (List Nat)) : Prop where
  ins : ∀ k ∈ Ke, ∃ K, F k = some K
  out : ∀ k, k ∉ Ke → F k = none
  nd : ∀ k K, F k = some K → K.Nodup
  post : ∀ B ∈ bs, ∀ K, F B.first = some K → ∀ x, opP F Ke B x → x ∈ K
  beh : ∀ k K, F k = some K → ∀ b, Beh (nextOf bs) (exitOf bs) k b → b ∈ K
section
variable {bs : List BlkN} {D : Nat} {Ke : List Nat} {F : Nat → Option (List Nat)}
theorem lot_ne (g : Graph bs D) (hE : ∀ k, k ∈ Ke ↔ Ends (nextOf bs) (exitOf bs) k) {B : BlkN} (hB : B ∈ bs) (hk : B.first ∈ Ke) : lotS F Ke B B.next.length ≠ [] := fun h0 => by
  have no : ∀ K, K ∉ lotS F Ke B B.next.length := by rw [h0]; simp
  rcases ends_fix.1 ((hE _).1 hk) with h | ⟨j, hj, h⟩
  · rw [g.exitB hB] at h
    exact no [] (mem_lot.2 (.inl ⟨h, rfl⟩))
  · rw [g.nextB hB] at hj
    exact no _ (mem_lot.2 (.inr ⟨j, hj, (hE j).2 h, rfl⟩))
theorem shr_start (g : Graph bs D) (hE : ∀ k, k ∈ Ke ↔ Ends (nextOf bs) (exitOf bs) k) (hn : Ke.Nodup) (h1 : ∀ k ∈ Ke, F k = some Ke) (h2 : ∀ k, k ∉ Ke → F k = none) : Shr bs Ke F := by
  have hd : ∀ k K, F k = some K → k ∈ Ke ∧ K = Ke := fun k K h => by
    by_cases e : k ∈ Ke
    · rw [h1 k e] at h; exact ⟨e, (Option.some.inj h).symm⟩
    · rw [h2 k e] at h; cases h
  refine ⟨fun k h => ⟨Ke, h1 k h⟩, h2, fun k K h => by rw [(hd k K h).2]; exact hn, fun B hB K h x hx => ?_, fun k K h b hb => ?_⟩
  · obtain ⟨hk, rfl⟩ := hd _ _ h
    rcases hx with rfl | hx
    · exact hk
    · obtain ⟨L, hL⟩ := List.exists_mem_of_ne_nil _ (lot_ne (F := F) g hE hB hk)
      have hxL := hx L hL
      rcases mem_lot.1 hL with ⟨-, rfl⟩ | ⟨k, -, hk2, rfl⟩
      · cases hxL
      · rw [h1 k hk2] at hxL; exact hxL
  · rw [(hd k K h).2]
    exact (hE b).2 hb.ends
theorem opP_mono {F' : Nat → Option (List Nat)} (h : ∀ k ∈ Ke, ∀ x, x ∈ (F' k).getD [] → x ∈ (F k).getD []) {B : BlkN} {x : Nat} (hx : opP F' Ke B x) : opP F Ke B x := by
  rcases hx with e | hx
  · exact .inl e
  · refine .inr fun K hK => ?_
    rcases mem_lot.1 hK with ⟨h1, h2⟩ | ⟨k, h1, h2, rfl⟩
    · exact hx K (mem_lot.2 (.inl ⟨h1, h2⟩))
    · exact h k h2 x (hx _ (mem_lot.2 (.inr ⟨k, h1, h2, rfl⟩)))
theorem Shr.less (s : Shr bs Ke F) {B : BlkN} (hB : B ∈ bs) {Ko N : List Nat} (hK : F B.first = some Ko) (hm : ∀ x, x ∈ N ↔ opP F Ke B x) : ∀ x ∈ N, x ∈ Ko := fun x hx => s.post B hB Ko hK x ((hm x).1 hx)
theorem setF_le {k : Nat} {Ko N : List Nat} (hK : F k = some Ko) (h : ∀ x ∈ N, x ∈ Ko) (j : Nat) : ∀ x, x ∈ (setF F k N j).getD [] → x ∈ (F j).getD [] := fun x hx => by
  unfold setF at hx
  by_cases e : j = k
  · subst e; rw [if_pos rfl] at hx; rw [hK]; exact h x hx
  · rw [if_neg e] at hx; exact hx
theorem Shr.step (g : Graph bs D) (hE : ∀ k, k ∈ Ke ↔ Ends (nextOf bs) (exitOf bs) k) (s : Shr bs Ke F) {B : BlkN} (hB : B ∈ bs) (hk : B.first ∈ Ke) {Ko N : List Nat} (hK : F B.first = some Ko) (hn : N.Nodup) (hm : ∀ x, x ∈ N ↔ opP F Ke B x) : Shr bs Ke (setF F B.first N) := by
  have hle := setF_le hK (s.less hB hK hm)
  refine ⟨fun k h => ?_, fun k h => ?_, fun k K h => ?_, fun C hC K h x hx => ?_, fun k K h b hb => ?_⟩
  · unfold setF
    by_cases e : k = B.first
    · exact ⟨N, if_pos e⟩
    · rw [if_neg e]; exact s.ins k h
  · unfold setF
    rw [if_neg (fun e => h (by rw [e]; exact hk))]; exact s.out k h
  · unfold setF at h
    by_cases e : k = B.first
    · rw [if_pos e] at h; cases h; exact hn
    · rw [if_neg e] at h; exact s.nd k K h
  · have hx2 : opP F Ke C x := opP_mono (fun k _ => hle k) hx
    unfold setF at h
    by_cases e : C.first = B.first
    · rw [if_pos e] at h; cases h
      have : C = B := nodup_inj (f := BlkN.first) g.nodup hC hB e
      subst this
      exact (hm x).2 hx2
    · rw [if_neg e] at h; exact s.post C hC K h x hx2
  · unfold setF at h
    by_cases e : k = B.first
    · rw [if_pos e] at h; cases h
      subst e
      refine (hm b).2 ?_
      rcases hb.fix with e | ⟨h1, h2⟩
      · exact .inl e
      · refine .inr fun K hK2 => ?_
        rcases mem_lot.1 hK2 with ⟨h3, -⟩ | ⟨j, h3, h4, rfl⟩
        · rw [g.exitB hB, h3] at h1; cases h1
        · obtain ⟨K, hK3⟩ := s.ins j h4
          rw [hK3]
          exact s.beh j K hK3 b (h2 j (by rw [g.nextB hB]; exact h3) ((hE j).1 h4))
    · rw [if_neg e] at h; exact s.beh k K h b hb
theorem Shr.done (g : Graph bs D) (hE : ∀ k, k ∈ Ke ↔ Ends (nextOf bs) (exitOf bs) k) (s : Shr bs Ke F) (hc : ∀ B ∈ bs, ∀ K, F B.first = some K → ∀ x ∈ K, opP F Ke B x) {k : Nat} {K : List Nat} (hK : F k = some K) (b : Nat) : b ∈ K ↔ Beh (nextOf bs) (exitOf bs) k b := by
  refine ⟨fun hb => ?_, s.beh k K hK b⟩
  have hk : ∀ k K, F k = some K → k ∈ Ke := fun k K h => by
    by_cases e : k ∈ Ke
    · exact e
    · rw [s.out k e] at h; cases h
  refine beh_of (B := fun k b => ∃ K, F k = some K ∧ b ∈ K) (fun k b h1 ⟨K, h2, h3⟩ => ?_) ((hE k).1 (hk k K hK)) ⟨K, hK, hb⟩
  obtain ⟨B, hB, rfl⟩ := List.mem_map.1 (ends_key g h1)
  rcases hc B hB K h2 b h3 with e | h
  · exact .inl e
  · refine .inr ⟨?_, fun j hj hj2 => ?_⟩
    · rw [g.exitB hB]
      cases e : B.exit with
      | false => rfl
      | true => exact absurd (h [] (mem_lot.2 (.inl ⟨e, rfl⟩))) (by simp)
    · rw [g.nextB hB] at hj
      obtain ⟨K', hK'⟩ := s.ins j ((hE j).2 hj2)
      exact ⟨K', hK', by have := h _ (mem_lot.2 (.inr ⟨j, hj, (hE j).2 hj2, rfl⟩)); rwa [hK'] at this⟩
def sizF (Ke : List Nat) (F : Nat → Option (List Nat)) : Nat := (Ke.map fun k => ((F k).getD []).length).sum
theorem siz_set {N Ko : List Nat} {k : Nat} : ∀ {Ke : List Nat}, Ke.Nodup → k ∈ Ke → F k = some Ko → sizF Ke (setF F k N) + Ko.length = sizF Ke F + N.length
  | [], _, h, _ => by cases h
  | x :: Ke, hn, h, hK => by
    rw [List.nodup_cons] at hn
    unfold sizF
    rw [List.map_cons, List.map_cons, List.sum_cons, List.sum_cons]
    by_cases e : x = k
    · subst e
      have h1 : Ke.map (fun k => ((setF F x N k).getD []).length) = Ke.map fun k => ((F k).getD []).length := List.map_congr_left fun j hj => by
        unfold setF
        rw [if_neg (fun e => hn.1 (by rw [← e]; exact hj))]
      have h2 : setF F x N x = some N := if_pos rfl
      rw [h1, h2, hK]
      simp; omega
    · have h2 : setF F k N x = F x := if_neg e
      rcases List.mem_cons.1 h with h3 | h3
      · exact absurd h3.symm e
      · have := siz_set (N := N) hn.2 h3 hK
        unfold sizF at this
        rw [h2]
        omega
structure Rnd (bs : List BlkN) (Ke : List Nat) (F0 F : Nat → Option (List Nat)) (ch : Bool) (seen : List Nat) : Prop where
  shr : Shr bs Ke F
  less : ch = true → sizF Ke F < sizF Ke F0
  le : sizF Ke F ≤ sizF Ke F0
  same : ch = false → ∀ B ∈ bs, B.first ∈ seen → ∀ K, F B.first = some K → ∀ x ∈ K, opP F Ke B x
theorem Rnd.start (s : Shr bs Ke F) : Rnd bs Ke F F false [] := ⟨s, fun h => by (cases h), Nat.le_refl _, fun _ B _ h => by (cases h)⟩
theorem Rnd.step (g : Graph bs D) (hE : ∀ k, k ∈ Ke ↔ Ends (nextOf bs) (exitOf bs) k) (hn : Ke.Nodup) {F0 : Nat → Option (List Nat)} {ch : Bool} {seen : List Nat} (r : Rnd bs Ke F0 F ch seen) {B : BlkN} (hB : B ∈ bs) (hk : B.first ∈ Ke) {Ko N : List Nat} (hK : F B.first = some Ko) (hN : N.Nodup) (hm : ∀ x, x ∈ N ↔ opP F Ke B x) :
    Rnd bs Ke F0 (setF F B.first N) (decide (N.length ≠ Ko.length) || ch) (seen ++ [B.first]) := by
  have hsub := r.shr.less hB hK hm
  have hlen : N.length ≤ Ko.length := hN.length_le_of_subset hsub
  have hsz := siz_set (N := N) hn hk hK
  refine ⟨r.shr.step g hE hB hk hK hN hm, fun h => ?_, ?_, fun h C hC hs K hKc x hx => ?_⟩
  · rw [Bool.or_eq_true, decide_eq_true_eq] at h
    rcases h with h | h
    · have := r.le; omega
    · have := r.less h; omega
  · have := r.le; omega
  · rw [Bool.or_eq_false_iff, decide_eq_false_iff_not] at h
    have hl : N.length = Ko.length := Decidable.not_not.1 h.1
    have hback := sub_back hN (r.shr.nd _ _ hK) hsub hl
    have hge : ∀ j x, x ∈ (F j).getD [] → x ∈ (setF F B.first N j).getD [] := fun j x hx => by
      unfold setF
      by_cases e : j = B.first
      · rw [if_pos e]; rw [e, hK] at hx; exact hback x hx
      · rw [if_neg e]; exact hx
    have hop : ∀ C x, opP F Ke C x → opP (setF F B.first N) Ke C x := fun C x h => opP_mono (F := setF F B.first N) (fun k _ => hge k) h
    by_cases e : C.first = B.first
    · have : C = B := nodup_inj (f := BlkN.first) g.nodup hC hB e
      subst this
      have : K = N := by
        have h2 : setF F C.first N C.first = some N := if_pos rfl
        rw [h2] at hKc; exact (Option.some.inj hKc).symm
      rw [this] at hx
      exact hop C x ((hm x).1 hx)
    · have hs2 : C.first ∈ seen := by
        rcases List.mem_append.1 hs with h | h
        · exact h
        · exact absurd (List.mem_singleton.1 h) e
      have h2 : setF F B.first N C.first = F C.first := if_neg e
      rw [h2] at hKc
      exact hop C x (r.same h.2 C hC hs2 K hKc x hx)
end
end
section
open Go.RowKit Go.Shelf
def SetsAt (w : World) (r : List Nat) (Ks : List (List Nat)) : Prop := Ks.length = r.length ∧ ∀ i (h : i < r.length) (h2 : i < Ks.length), SetAt w r[i] Ks[i]
theorem SetsAt.nil (w : World) : SetsAt w [] [] := ⟨rfl, fun i h => absurd h (by simp)⟩
theorem SetsAt.snoc {w : World} {r : List Nat} {Ks : List (List Nat)} (h : SetsAt w r Ks) {b : Nat} {K : List Nat} (hS : SetAt w b K) : SetsAt w (r ++ [b]) (Ks ++ [K]) := ⟨by simp [h.1], fun i h1 h2 => by
  have h0 := h.1
  by_cases e : i < r.length
  · rw [List.getElem_append_left e, List.getElem_append_left (by omega)]; exact h.2 i e (by omega)
  · rw [List.getElem_append_right (by omega), List.getElem_append_right (by omega)]; simpa using hS⟩
theorem SetsAt.below {w w' : World} {r : List Nat} {Ks : List (List Nat)} (h : SetsAt w r Ks) (hb : Below w.heap.size w w') : SetsAt w' r Ks := ⟨h.1, fun i h1 h2 => (h.2 i h1 h2).below hb⟩
theorem SetAt.grown {w w' : World} {B T s n b : Nat} {v : Value} {xs : List Value} {K : List Nat} (h : SetAt w b K) (ho : w.ownsRow B T s v n xs) (hg : w.grownBy w' v.ownBlock) : SetAt w' b K := by
  refine h.only (grown_only hg) fun e => ?_
  obtain ⟨E, clk, h1, -⟩ := h
  rcases ho.2 with ⟨rfl, rfl⟩ | ⟨g, cap, cur, rfl, -, hgg, -⟩
  · cases e
  · cases e
    rw [h1] at hgg
    cases hgg
theorem SetsAt.grown {w w' : World} {B T s n : Nat} {v : Value} {xs : List Value} {r : List Nat} {Ks : List (List Nat)} (h : SetsAt w r Ks) (ho : w.ownsRow B T s v n xs) (hg : w.grownBy w' v.ownBlock) : SetsAt w' r Ks := ⟨h.1, fun i h1 h2 => (h.2 i h1 h2).grown ho hg⟩
theorem info_mib : (Tryz.prog.info? 95).map (fun i => (i.zero, i.size, i.bytes)) = some (some (Value.map none), 1, 8) := by kernel_rfl
set_option maxRecDepth 100000 in
set_option maxHeartbeats 8000000 in
theorem shrink_any (bs : List BlkN) (D : Nat) (g : Graph bs D) (gb mb hb_ eb lo : Nat) (F : Nat → Option (List Nat)) (Ke : List Nat) (B : BlkN) (Ko : List Nat) (w : World)
    (h0 : w.cell? ⟨gb, 0, none⟩ = some (.map (some mb))) (h1 : w.cell? ⟨gb, 1, none⟩ = some (.map (some hb_))) (hM : MapB lo w mb bs) {lo2 : Nat} (hlo2 : lo2 ≤ w.heap.size) (hH : BehAt lo2 w hb_ F) (hE : SetAt w eb Ke)
    (hB : B ∈ bs) (hK : F B.first = some Ko) (hF : ∀ k ∈ Ke, ∃ K, F k = some K) (hl : B.next.length ≤ 900) (hx : lotS F Ke B B.next.length ≠ []) :
    Calls Tryz.prog 90 #[.pointer (some ⟨gb, 0, none⟩), .int .i64 B.first, .map (some eb)] w fun e w' => (∃ N : List Nat, e = .returned (.bool (decide (N.length ≠ Ko.length))) ∧ N.Nodup ∧ (∀ x, x ∈ N ↔ opP F Ke B x) ∧ BehAt lo2 w' hb_ (setF F B.first N)) ∧ Only (· = hb_) w w' := by
  obtain ⟨l, hml, hfd⟩ := hM.find (B.first : Int)
  obtain ⟨p, q, hf, hI⟩ : ∃ p q, findI (B.first : Int) l = some (blkV p q B) ∧ IntsAt w p q B.next := by
    rcases hfd with ⟨-, h⟩ | ⟨j, hj, p, q, e, -, hf, hI, -⟩
    · exact absurd rfl (h B hB)
    · have : bs[j] = B := nodup_inj (f := BlkN.first) g.nodup (List.getElem_mem hj) hB (by omega)
      rw [this] at hf hI
      exact ⟨p, q, hf, hI⟩
  clear hfd hM
  obtain ⟨i0, hi0, hz0, hz1, hz2⟩ := info_parts info_mib
  have hz : ∀ w, (zeroValue 51).run Tryz.prog w = .ok (.agg #[.int .i64 0, .int .i64 0, .slice none 0 0, .bool false]) w := fun _ => rfl
  have hmm : ∀ w, (Instr.makeMap 95 none).run Tryz.prog w = .ok (.map (some w.heap.size)) (w.alloc (.map #[] 0)) := fun _ => rfl
  have hu := Tryz.underlying51
  obtain ⟨ex, hex⟩ : ∃ ex, B.exit = ex := ⟨_, rfl⟩
  have hmbl := (Array.getElem?_eq_some_iff.1 hml).1
  have hBV : blkV p q B = .agg #[.int .i64 B.first, .int .i64 B.last, .slice p B.next.length q, .bool ex] := by rw [← hex]; rfl
  rw [hBV] at hf
  clear hBV
  replace hex := qh hex
  replace hml := qh hml
  replace hf := qh (show findI (B.first : Int) l = some (.agg #[.int .i64 B.first, .int .i64 B.last, .slice p B.next.length q, .bool ex]) from hf)
  replace hI := qh hI
  replace hH := qh hH
  replace hE := qh hE
  replace hF := qh hF
  replace hK := qh hK
  replace hx := qh hx
  go_enter Tryz.func90, Tryz.ntmps90
  go_upto_if 21 with (first
    | (refine wpList_lookI rfl 96 3 51 .i64 _ _ false rfl (by kernel_rfl) (by kernel_rfl) hz B.first mb l rfl rfl hml.out ?_; rw [if_neg (by decide), hf.out, Option.getD_some])
    | (refine wpList_store_blkG rfl 51 _ _ rfl w.heap.size rfl 51 [.int .i64 0, .int .i64 0, .slice none 0 0, .bool false] [.int .i64 B.first, .int .i64 B.last, .slice p B.next.length q, .bool ex] (BlkG.new w _ _) rfl rfl (by kernel_rfl) rfl ?_; intro w2 hX2 ho2; have hb2 := qh (ho2.below (xalloc (xrefl w) _) (by rw [World.size_alloc]; omega) (by rintro k rfl; omega)); have hc2 : w2.cell? ⟨w.heap.size, 2, none⟩ = some (.slice p B.next.length q) := (by simpa using hX2.range 2 _ rfl); have hc3 : w2.cell? ⟨w.heap.size, 3, none⟩ = some (.bool ex) := (by simpa using hX2.range 3 _ rfl); have hb3 := qh (xtrans hb2.out (xalloc (xrefl w2) (.cells #[] 95)) ); replace hc2 := cbel (xalloc (xrefl w2) (.cells #[] 95)) hc2; replace hc3 := cbel (xalloc (xrefl w2) (.cells #[] 95)) hc3; replace hX2 := qh hX2; clear ho2))
  have hO0 : (w2.alloc (.cells #[] 95)).ownsRow w.heap.size 95 1 (.slice (some ⟨w2.heap.size, 0, none⟩) 0 0) 0 [] := World.ownsRow_made w2 #[] 0 (by have := hb2.out.size; omega) (by unfold maxLen; omega) rfl
  have hws : (w2.alloc (.cells #[] 95)).heap.size = w2.heap.size + 1 := World.size_alloc _ _
  obtain ⟨w3, hw3⟩ : ∃ w3, w2.alloc (.cells #[] 95) = w3 := ⟨_, rfl⟩
  rw [hw3] at hO0 hb3 hc2 hc3 hws
  simp only [hw3]
  have hsz2 := hX2.out.lt
  clear hw3 hX2
  obtain ⟨b2, hb2e⟩ : ∃ b2, w2.heap.size = b2 := ⟨_, rfl⟩
  rw [hb2e] at hO0 hws hsz2
  simp only [hb2e]
  have hws' : b2 < w3.heap.size := by omega
  replace hws := qh hws
  replace hb2e := qh hb2e
  replace hO0 := qh hO0
  have hsz3 := hb3.out.size
  go_cut [8] from 22 to 25 (fun v wx => ∃ rs : List Nat, rs.length ≤ 1 ∧ Hid (wx.ownsRow w.heap.size 95 1 v rs.length (rs.map fun b => .map (some b))) ∧ Hid (SetsAt wx rs (lotS F Ke B 0)) ∧ Hid (Below w.heap.size w wx) ∧ Hid (wx.cell? ⟨w.heap.size, 2, none⟩ = some (.slice p B.next.length q)))
  case first =>
    cases ex with
    | false =>
      go_wp2
      go_meet
      exact ⟨[], by simp, hO0, Lib.hid (by have : lotS F Ke B 0 = [] := by unfold lotS; rw [hex.out]; rfl
                                           rw [this]; exact SetsAt.nil _), hb3, qh hc2⟩
    | true =>
      have hrn : RowV ((w3.alloc (.map #[] 0)).alloc (.cells #[.map (some w3.heap.size)] 95)) (some ⟨w3.heap.size + 1, 0, none⟩) [.map (some w3.heap.size)] := by
        have := rowV_new (w3.alloc (.map #[] 0)) 95 [.map (some w3.heap.size)]
        rwa [World.size_alloc] at this
      have hb4 : Below w3.heap.size w3 ((w3.alloc (.map #[] 0)).alloc (.cells #[.map (some w3.heap.size)] 95)) := xalloc (xalloc (xrefl _) _) _
      have hS4 : SetAt ((w3.alloc (.map #[] 0)).alloc (.cells #[.map (some w3.heap.size)] 95)) w3.heap.size [] := (SetAt.new w3).below (xalloc (xrefl _) _)
      have hO4 := own_keep hO0.out hb4
      have hb5 := xtrans hb3.out hb4
      replace hrn := qh hrn
      replace hS4 := qh hS4
      replace hO4 := qh hO4
      replace hb5 := qh hb5
      have hc4 := qh (cbel hb4 hc2)
      go_wp2_with (at_builtin; refine wpList_append_vals _ rfl _ _ 169 rfl w.heap.size 95 i0 (.map none) 1 8 Tryz.underlying169 hi0 hz0 hz1 hz2 rfl (by decide) (.slice (some ⟨b2, 0, none⟩) 0 0) 0 [] rfl hO4.out (some ⟨w3.heap.size + 1, 0, none⟩) 1 1 [.map (some w3.heap.size)] rfl (by simp) rfl hrn.out (by simp; rfl) (by unfold maxLen; omega) (by omega) hb5.out.size ?_; intro v5 w5 ho5 hg5; have hS5 := qh (SetAt.grown hS4.out hO4.out hg5); have hb6 := qh (hb5.out.grown hg5 hb5.out.size (fun j hj => (hO4.out.lt j hj).1)); have hc5 := qh (hg5.cell hc4.out (by show some w.heap.size ≠ some b2; intro e; cases e; omega)); replace ho5 := qh ho5; clear hg5)
      go_meet
      exact ⟨[w3.heap.size], by simp, ho5, Lib.hid (by have : lotS F Ke B 0 = [[]] := by unfold lotS; rw [hex.out]; rfl
                                                       rw [this]; exact (SetsAt.nil _).snoc hS5.out), hb6, hc5⟩
  case rest =>
    obtain ⟨rs0, hrl0, hO0, hSs0, hb0, hcc⟩ := hcut
    have hc2' := hcc.out
    clear hcc hc2 hc3 hsz2 hsz3 hws' hws hb2e
    go_wp2
    go_loopw [8, 29] (fun lv iv wx => ∃ (i : Nat) (rs : List Nat), iv = .int .i64 i ∧ i ≤ B.next.length ∧ rs.length ≤ i + 1 ∧ Hid (wx.ownsRow w.heap.size 95 1 lv rs.length (rs.map fun b => .map (some b))) ∧ Hid (SetsAt wx rs (lotS F Ke B i)) ∧ Hid (Below w.heap.size w wx)) (fun _ iv _ => B.next.length - (intOf iv).toNat)
    case atStart => exact ⟨0, rs0, rfl, by omega, by omega, hO0, hSs0, hb0⟩
    case round =>
      clear hO0 hSs0 hb0 hc2'
      obtain ⟨i, rs, rfl, hi, hrl, hO, hSs, hb⟩ := hrel
      by_cases hlt : i < B.next.length
      · have hltI : (i : Int) < B.next.length := by omega
        obtain ⟨b, o, rfl, hci⟩ := (hI.out.below hb.out).get hlt
        have hEr := qh (hE.out.below hb.out)
        have hlot : Hid (lotS F Ke B (i + 1) = if B.next[i] ∈ Ke then lotS F Ke B i ++ [(F B.next[i]).getD []] else lotS F Ke B i) := qh (by
          unfold lotS
          rw [List.take_succ_eq_append_getElem hlt, List.filter_append, List.map_append]
          by_cases e : B.next[i] ∈ Ke
          · rw [if_pos e]; simp [e]
          · rw [if_neg e]; simp [e])
        have hzb : ∀ w, (zeroValue 4).run Tryz.prog w = .ok (.bool false) w := fun _ => by kernel_rfl
        have hzm : ∀ w, (zeroValue 95).run Tryz.prog w = .ok (.map none) w := fun _ => rfl
        generalize B.next[i] = tt at *
        by_cases hin : tt ∈ Ke
        · obtain ⟨Kt, hKt⟩ := hF.out tt hin
          have hdec := qh (decide_eq_true hin)
          rw [if_pos hin, hKt, Option.getD_some] at hlot
          obtain ⟨c, hlk, hcb, hSc⟩ := (hH.out.below hb.out).look (P := Tryz.prog) (t := 97) (k := 3) (e := 95) Tryz.underlying97 Tryz.underlying3 hzm tt hKt
          have c1r : wr.cell? ⟨gb, 1, none⟩ = some (.map (some hb_)) := cbel hb.out h1
          replace hSc := qh hSc
          have hOA := qh (own_keep hO.out (xalloc (xrefl wr) (.cells #[.map (some c)] 95)))
          have hSA := qh (hSs.out.below (xalloc (xrefl wr) (.cells #[.map (some c)] 95)))
          have hcA := qh (hSc.out.below (xalloc (xrefl wr) (.cells #[.map (some c)] 95)))
          have hbA := qh (xtrans hb.out (xalloc (xrefl wr) (.cells #[.map (some c)] 95)))
          have hrA := qh (rowV_new wr 95 [.map (some c)])
          clear hin
          go_wp2_with (first
            | (refine wpList_exec rfl (.bool (decide (tt ∈ Ke))) (exec_lookS 132 3 4 _ _ rfl Tryz.underlying132 Tryz.underlying3 hzb eb tt Ke rfl rfl hEr.out) ?_; rw [hdec.out])
            | (at_builtin; refine wpList_append_vals _ rfl _ _ 169 rfl w.heap.size 95 i0 (.map none) 1 8 Tryz.underlying169 hi0 hz0 hz1 hz2 rfl (by decide) _ rs.length _ rfl hOA.out (some ⟨wr.heap.size, 0, none⟩) 1 1 [.map (some c)] rfl (by simp) rfl hrA.out (by simp; rfl) (by unfold maxLen; omega) (by omega) hbA.out.size ?_; intro v5 w5 ho5 hg5; have hS5 := qh ((SetsAt.grown hSA.out hOA.out hg5).snoc (SetAt.grown hcA.out hOA.out hg5)); have hb6 := qh (hbA.out.grown hg5 hbA.out.size (fun j hj => (hOA.out.lt j hj).1)); replace ho5 := qh ho5; clear hg5))
          exact ⟨⟨i + 1, rs ++ [c], by go_num, by omega, by simp; omega, qh (by simpa using ho5.out), qh (by rw [hlot.out]; exact hS5.out), hb6⟩, by simp [intOf]; omega⟩
        · have hdec := qh (decide_eq_false hin)
          rw [if_neg hin] at hlot
          clear hin
          go_wp2_with (refine wpList_exec rfl (.bool (decide (tt ∈ Ke))) (exec_lookS 132 3 4 _ _ rfl Tryz.underlying132 Tryz.underlying3 hzb eb tt Ke rfl rfl hEr.out) ?_; rw [hdec.out])
          exact ⟨⟨i + 1, rs, by go_num, by omega, by omega, hO, qh (by rw [hlot.out]; exact hSs.out), hb⟩, by simp [intOf]; omega⟩
      · obtain rfl : i = B.next.length := by omega
        obtain ⟨b0, r, rfl⟩ : ∃ b0 r, rs = b0 :: r := by
          cases rs with
          | cons b0 r => exact ⟨b0, r, rfl⟩
          | nil => exact absurd (List.eq_nil_of_length_eq_zero (by simpa using hSs.out.1)) hx.out
        obtain ⟨K0, Ks, hLK⟩ : ∃ K0 Ks, lotS F Ke B B.next.length = K0 :: Ks := by
          cases e : lotS F Ke B B.next.length with
          | cons K0 Ks => exact ⟨K0, Ks, rfl⟩
          | nil => exact absurd e hx.out
        obtain ⟨a, c, rfl, hrow, -, -, -⟩ := rowV_own hO.out
        have hcap : r.length + 1 ≤ c := by
          rcases hO.out.2 with ⟨e, -⟩ | ⟨g', cap, cur, e, -, -, hc, -⟩
          · cases e
          · cases e; simpa using hc
        have hS1 := hSs.out
        have hop : Hid (∀ x, opP F Ke B x ↔ x = B.first ∨ x ∈ interT K0 Ks) := qh fun x => by
          unfold opP; rw [hLK, mem_interT]; simp
        rw [hLK] at hS1
        have hKl : Ks.length = r.length := by have := hS1.1; simpa using this
        have hmet := qh (met_any b0 r K0 Ks a c wr hcap (by simp at hrl; omega) hKl hrow (hS1.2 0 (by simp) (by simp)) (fun i h => by have := hS1.2 (i + 1) (by simpa using h) (by simp; omega); simpa using this))
        have hzm : ∀ w, (zeroValue 95).run Tryz.prog w = .ok (.map none) w := fun _ => rfl
        have hwr := hb.out.size
        clear hrow hS1 hO hSs hLK hlt hi hrl hcap
        have hhb := hH.out.lt
        rw [List.length_cons]
        go_wp2_with (first
          | (go_at_call 121; refine hmet.out.mono ?_; rintro e w7 ⟨⟨rfl, hS7⟩, hb7⟩; replace hS7 := qh hS7; replace hb7 := qh hb7)
          | (refine wpList_putS rfl 95 3 4 _ _ _ rfl Tryz.underlying95 Tryz.underlying3 wr.heap.size B.first _ rfl rfl rfl hS7.out ?_; intro w8 hS8 ho8; have hb8 := qh (ho8.below (xtrans hb.out hb7.out) (xtrans hb.out hb7.out).size (by rintro k rfl; omega)); have hH8 := qh (hH.out.below hb8.out); have c8 := cbel hb8.out h1; obtain ⟨co, hlk8, hco, hSo⟩ := hH8.out.look (P := Tryz.prog) (t := 97) (k := 3) (e := 95) Tryz.underlying97 Tryz.underlying3 hzm B.first hK.out; replace hSo := qh hSo; replace hS8 := qh hS8; replace ho8 := qh ho8)
          | (refine wpList_putB rfl 97 3 95 _ _ _ rfl Tryz.underlying97 Tryz.underlying3 hb_ B.first wr.heap.size F _ rfl rfl rfl hH8.out hS8.out (by omega) (by omega) ?_; intro w9 hH9 ho9; have hS9 := qh (hS8.out.only ho9 (by omega)); have hSo9 := qh (hSo.out.only ho9 (by omega)); replace hH9 := qh hH9; replace ho9 := qh ho9)
          | (refine wpList_exec rfl (.int .i64 Ko.length) (exec_lenS 95 3 4 _ rfl Tryz.underlying95 co Ko rfl hSo9.out) ?_)
          | (refine wpList_exec rfl (.int .i64 _) (exec_lenS 95 3 4 _ rfl Tryz.underlying95 wr.heap.size _ rfl hS9.out) ?_))
        go_ret
        refine ⟨⟨addK (interT K0 Ks) B.first, ?_, hS9.out.nd, fun x => ?_, hH9.out⟩, ?_⟩
        · show Ending.returned (Value.bool (((addK (interT K0 Ks) B.first).length : Int) != (Ko.length : Int))) = _
          congr 2
          rw [Bool.eq_iff_iff]
          simp
          omega
        · rw [hop.out, mem_addK]
        · exact (Below.only hb8.out).trans ho9.out
end
section
open Go.RowKit
def withoutZ (bs : List BlkN) (D : Nat) (n but : Int) : List Nat := if 0 ≤ n then withoutN bs D n.toNat but else []
theorem withoutZ_nat (bs : List BlkN) (D k : Nat) (but : Int) : withoutZ bs D k but = withoutN bs D k but := by unfold withoutZ; rw [if_pos (by omega), Int.toNat_natCast]
end
section
open Go.RowKit
def exitsZ (bs : List BlkN) (D : Nat) (n but : Int) : Bool := (withoutZ bs D n but).any (exitOf bs)
theorem exitsZ_nat (bs : List BlkN) (D k : Nat) (but : Int) : exitsZ bs D k but = exitsN bs D k but := by unfold exitsZ exitsN; rw [withoutZ_nat]
theorem exitsZ_neg {bs : List BlkN} {D : Nat} {n but : Int} (h : n < 0) : exitsZ bs D n but = false := by unfold exitsZ withoutZ; rw [if_neg (by omega)]; rfl
theorem graph_code (cs : List Nat) : Graph (blksN cs) cs.length := ⟨by
  have hs : SL (grps cs).flatten := by rw [grps_join]; exact opsL_sl cs
  have hp := (List.pairwise_flatten.1 hs).2
  have e : keysB (blksN cs) = (grps cs).map fstN := by unfold keysB blksN; rw [List.map_map]; rfl
  rw [e]
  unfold SL
  rw [List.pairwise_map, List.pairwise_iff_getElem]
  intro i j hi hj hij
  exact List.pairwise_iff_getElem.1 hp i j hi hj hij _ (fst_mem (grps_ne (List.getElem_mem hi))) _ (fst_mem (grps_ne (List.getElem_mem hj))), fun b hb x hx => by
  obtain ⟨b', h1, h2⟩ := next_block hb hx
  exact List.mem_map.2 ⟨b', h1, h2⟩, fun b hb => next_len hb⟩
def behP (bs : List BlkN) (D : Nat) (n : Int) (b : Nat) : Bool := !exitsZ bs D n (b : Int)
def behindZ (bs : List BlkN) (D : Nat) (n : Int) : List Nat := if exitsZ bs D n (-1) = true then (keysB bs).filter (behP bs D n) else []
theorem behindZ_nat (bs : List BlkN) (D k : Nat) : behindZ bs D k = behindN bs D k := by
  unfold behindZ behindN behP
  simp only [exitsZ_nat]
theorem behindZ_neg {bs : List BlkN} {D : Nat} {n : Int} (h : n < 0) : behindZ bs D n = [] := by unfold behindZ; rw [exitsZ_neg h]; rfl
end
section
open Go.RowKit
def meetP (bs : List BlkN) (D : Nat) (n : Int) (L : Nat) (m : Nat) : Bool := decide ((m : Int) ≠ n) && decide ((behindN bs D m).length + 1 = L)
def meetZ (bs : List BlkN) (D : Nat) (n : Int) : Option Nat := (behindZ bs D n).find? (meetP bs D n (behindZ bs D n).length)
theorem meetZ_nat (bs : List BlkN) (D k : Nat) : meetZ bs D k = meetN bs D k := by
  unfold meetZ meetN meetP
  rw [behindZ_nat]
  congr 1
  funext m
  congr 1
  rw [Bool.eq_iff_iff]
  simp only [decide_eq_true_eq]
  omega
theorem meetZ_neg {bs : List BlkN} {D : Nat} {n : Int} (h : n < 0) : meetZ bs D n = none := by unfold meetZ; rw [behindZ_neg h]; rfl
end
end Go.Proofs.YtijkdabmegbcjaaGreatDoor
