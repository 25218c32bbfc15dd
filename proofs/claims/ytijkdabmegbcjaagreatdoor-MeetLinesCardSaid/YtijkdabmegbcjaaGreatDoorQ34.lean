/- Texts of this claim, merged; no condition. -/
import Derived.Test.YtijkdabmegbcjaaGreatDoorQ33
import Derived.Test.YtijkdabmegbcjaaGreatDoorQ32
import Derived.Test.YtijkdabmegbcjaaGreatDoorQ13
import Derived.Test.YtijkdabmegbcjaaGreatDoorQ28
set_option linter.all false
namespace Go.Proofs.YtijkdabmegbcjaaGreatDoor
open Go.RowKit

def exitsZ (bs : List BlkN) (D : Nat) (n but : Int) : Bool := (withoutZ bs D n but).any (exitOf bs)
theorem exitsZ_nat (bs : List BlkN) (D k : Nat) (but : Int) : exitsZ bs D k but = exitsN bs D k but := by unfold exitsZ exitsN; rw [withoutZ_nat]
theorem exitsZ_neg {bs : List BlkN} {D : Nat} {n but : Int} (h : n < 0) : exitsZ bs D n but = false := by unfold exitsZ withoutZ; rw [if_neg (by omega)]; rfl
theorem withoutZ_len {bs : List BlkN} {D : Nat} (g : Graph bs D) (n but : Int) : (withoutZ bs D n but).length ≤ bs.length := by
  unfold withoutZ
  split
  · exact without_len g _ _
  · simp
set_option maxRecDepth 100000 in
set_option maxHeartbeats 2000000 in
theorem refExits_any (bs : List BlkN) (D : Nat) (g : Graph bs D) (n but : Int) (a : Option Addr) (c : Nat) (w : World) (h : BlksAt w a c bs) (hl : bs.length ≤ 100) (hD : D ≤ 100) :
    Calls Tryz.prog 59 #[.slice a bs.length c, .int .i64 n, .int .i64 but] w fun e w' => e = .returned (.bool (exitsZ bs D n but)) ∧ Below w.heap.size w w' := by
  have hwo := Lib.hid (refWithout_any bs D g n but a c w h hl hD)
  have hfd := Lib.hid fun W (hW : Below w.heap.size w W) m => find_any2 bs m a c W (h.below hW) (by omega)
  have hml := withoutZ_len g n but
  have hex : Hid (exitsZ bs D n but = (withoutZ bs D n but).any (exitOf bs)) := Lib.hid rfl
  generalize withoutZ bs D n but = m at *
  generalize exitsZ bs D n but = R at *
  clear h g
  go_enter Tryz.func59, Tryz.ntmps59
  go_wp2_with (go_at_call 91; refine hwo.out.mono ?_; rintro e w1 ⟨⟨v, rfl, hv⟩, hw1⟩; obtain ⟨a1, c1, rfl, hI1, -⟩ := hv.at; replace hI1 := Lib.hid hI1; replace hw1 := Lib.hid hw1; clear hv)
  go_loopw [8] (fun iv wx => ∃ i : Nat, iv = .int .i64 i ∧ i ≤ m.length ∧ Hid ((m.take i).any (exitOf bs) = false) ∧ Hid (Below w1.heap.size w1 wx)) (fun iv _ => m.length - (intOf iv).toNat)
  case atStart => exact ⟨0, rfl, by omega, Lib.hid rfl, Lib.hid (xrefl w1)⟩
  case round =>
    obtain ⟨i, rfl, hi, hno, hb⟩ := hrel
    by_cases hlt : i < m.length
    · have hltI : (i : Int) < m.length := by omega
      obtain ⟨b, o, rfl, hc⟩ := (hI1.out.below hb.out).get hlt
      have htk : Hid ((m.take (i + 1)).any (exitOf bs) = exitOf bs m[i]) := Lib.hid (by rw [List.take_succ_eq_append_getElem hlt, List.any_append, hno.out]; simp)
      have hyes : Hid (exitOf bs m[i] = true → R = true) := Lib.hid fun e => by rw [hex.out, List.any_eq_true]; exact ⟨_, List.getElem_mem hlt, e⟩
      generalize m[i] = kk at *
      have hbw := Lib.hid (xtrans hw1.out hb.out)
      cases hX : exitOf bs kk with
      | true =>
        go_wp2_with (first
          | (go_at_call 34; refine (hfd.out _ hbw.out (kk : Int)).mono ?_; rintro e w3 ⟨⟨p, q, F, La, X, L, rfl, hpI⟩, hw3⟩; obtain ⟨rfl, rfl, -⟩ := hpI kk rfl; clear hpI; rw [hX]; replace hw3 := Lib.hid hw3; have hX3 := Lib.hid (BlkG.new w3 51 [.int .i64 0, .int .i64 0, .slice none 0 0, .bool false]))
          | (refine wpList_store_blkG rfl 51 _ _ rfl w3.heap.size rfl 51 [.int .i64 0, .int .i64 0, .slice none 0 0, .bool false] [.int .i64 F, .int .i64 La, .slice p (nextOf bs kk).length q, .bool true] hX3.out rfl rfl (by kernel_rfl) rfl ?_; intro w4 hX4 ho4; have hr34 := Lib.hid (xtrans hw3.out (ho4.below (xalloc (xrefl w3) (.cells #[.int .i64 0, .int .i64 0, .slice none 0 0, .bool false] 51)) (xalloc (xrefl w3) (.cells #[.int .i64 0, .int .i64 0, .slice none 0 0, .bool false] 51)).size (by rintro k rfl; exact Nat.le_refl _))); have hb34 := Lib.hid (xtrans hbw.out hr34.out); have cex : w4.cell? ⟨w3.heap.size, 3, none⟩ = some (.bool true) := (by simpa using hX4.range 3 _ rfl); clear ho4 hX4))
        go_ret
        exact ⟨by rw [hyes.out hX]; rfl, hb34.out⟩
      | false =>
        go_wp2_with (first
          | (go_at_call 34; refine (hfd.out _ hbw.out (kk : Int)).mono ?_; rintro e w3 ⟨⟨p, q, F, La, X, L, rfl, hpI⟩, hw3⟩; obtain ⟨rfl, rfl, -⟩ := hpI kk rfl; clear hpI; rw [hX]; replace hw3 := Lib.hid hw3; have hX3 := Lib.hid (BlkG.new w3 51 [.int .i64 0, .int .i64 0, .slice none 0 0, .bool false]))
          | (refine wpList_store_blkG rfl 51 _ _ rfl w3.heap.size rfl 51 [.int .i64 0, .int .i64 0, .slice none 0 0, .bool false] [.int .i64 F, .int .i64 La, .slice p (nextOf bs kk).length q, .bool false] hX3.out rfl rfl (by kernel_rfl) rfl ?_; intro w4 hX4 ho4; have hr34 := Lib.hid (xtrans hw3.out (ho4.below (xalloc (xrefl w3) (.cells #[.int .i64 0, .int .i64 0, .slice none 0 0, .bool false] 51)) (xalloc (xrefl w3) (.cells #[.int .i64 0, .int .i64 0, .slice none 0 0, .bool false] 51)).size (by rintro k rfl; exact Nat.le_refl _))); have hb34 := Lib.hid (xtrans hbw.out hr34.out); have cex : w4.cell? ⟨w3.heap.size, 3, none⟩ = some (.bool false) := (by simpa using hX4.range 3 _ rfl); clear ho4 hX4))
        refine ⟨⟨i + 1, by go_num, by omega, Lib.hid (by rw [htk.out, hX]), Lib.hid (xtrans hb.out (hr34.out))⟩, by simp [intOf]; omega⟩
    · obtain rfl : i = m.length := by omega
      have hR : R = false := by rw [hex.out]; have := hno.out; rwa [List.take_length] at this
      subst hR
      clear hlt
      go_wp2
      go_ret
      exact ⟨rfl, xtrans hw1.out hb.out⟩
theorem graph_code (cs : List Nat) : Graph (blksN cs) cs.length := ⟨by
  have hs : SL (grps cs).flatten := by rw [grps_join]; exact opsL_sl cs
  have hp := (List.pairwise_flatten.1 hs).2
  have e : keysB (blksN cs) = (grps cs).map fstN := by unfold keysB blksN; rw [List.map_map]; rfl
  rw [e]
  unfold SL
  rw [List.pairwise_map, List.pairwise_iff_getElem]
  intro i j hi hj hij
  exact List.pairwise_iff_getElem.1 hp i j hi hj hij _ (fst_mem (grps_ne (List.getElem_mem hi))) _ (fst_mem (grps_ne (List.getElem_mem hj))), fun b hb x hx => by
  obtain ⟨b', h1, h2⟩ := next_block hb hx
  exact List.mem_map.2 ⟨b', h1, h2⟩, fun b hb => next_len hb⟩
set_option maxRecDepth 100000 in
theorem refEnds12_any (cs : List Nat) (n : Int) (a : Option Addr) (c : Nat) (w : World) (h : CodeAt w a c cs) (hl : cs.length ≤ 100) :
    Calls Tryz.prog 29 #[.slice a cs.length c, .int .i64 n] w fun e w' => e = .returned (.bool (exitsZ (blksN cs) cs.length n (-1))) ∧ Below w.heap.size w w' := by
  have hb1 := Lib.hid (refBlocks_any cs a c w h)
  have hbl := blksN_len cs
  have hx := Lib.hid fun p q W h => refExits_any (blksN cs) cs.length (graph_code cs) n (-1) p q W h (by omega) hl
  generalize exitsZ (blksN cs) cs.length n (-1) = R at *
  generalize blksN cs = bs at *
  clear h
  go_enter Tryz.func29, Tryz.ntmps29
  go_wp2_with (first
    | (go_at_call 15; refine hb1.out.mono ?_; rintro e w1 ⟨⟨p, q, rfl, hP, -⟩, hw1⟩; replace hP := Lib.hid hP; replace hw1 := Lib.hid hw1)
    | (go_at_call 59; refine (hx.out p q _ hP.out).mono ?_; rintro e w2 ⟨rfl, hw2⟩; replace hw2 := Lib.hid hw2))
  go_ret
  exact ⟨rfl, xtrans hw1.out hw2.out⟩
def behP (bs : List BlkN) (D : Nat) (n : Int) (b : Nat) : Bool := !exitsZ bs D n (b : Int)
def behindZ (bs : List BlkN) (D : Nat) (n : Int) : List Nat := if exitsZ bs D n (-1) = true then (keysB bs).filter (behP bs D n) else []
theorem behindZ_nat (bs : List BlkN) (D k : Nat) : behindZ bs D k = behindN bs D k := by
  unfold behindZ behindN behP
  simp only [exitsZ_nat]
theorem behindZ_neg {bs : List BlkN} {D : Nat} {n : Int} (h : n < 0) : behindZ bs D n = [] := by unfold behindZ; rw [exitsZ_neg h]; rfl
theorem behindZ_len {bs : List BlkN} {D : Nat} (n : Int) : (behindZ bs D n).length ≤ bs.length := by
  unfold behindZ
  split
  · have := List.length_filter_le (behP bs D n) (keysB bs)
    simpa [keysB] using this
  · simp
set_option maxRecDepth 100000 in
set_option maxHeartbeats 2000000 in
theorem refBehindB_any (bs : List BlkN) (D : Nat) (g : Graph bs D) (n : Int) (a : Option Addr) (c : Nat) (w : World) (h : BlksAt w a c bs) (hl : bs.length ≤ 100) (hD : D ≤ 100) :
    Calls Tryz.prog 62 #[.slice a bs.length c, .int .i64 n] w fun e w' => (∃ v, e = .returned v ∧ OwnI w w' v (behindZ bs D n)) ∧ Below w.heap.size w w' := by
  obtain ⟨i0, hi0, hz0, hz1, hz2⟩ := info_parts info_int
  have hx1 := Lib.hid (refExits_any bs D g n (-1) a c w h hl hD)
  have hxe := Lib.hid fun W (hW : Below w.heap.size w W) (but : Int) => refExits_any bs D g n but a c W (h.below hW) hl hD
  have hel := Lib.hid fun W (hW : Below w.heap.size w W) => (h.below hW).elt
  have hkl : (keysB bs).length = bs.length := by simp [keysB]
  cases hX : exitsZ bs D n (-1) with
  | false =>
    have hR : behindZ bs D n = [] := by unfold behindZ; rw [hX]; rfl
    rw [hR]
    rw [hX] at hx1
    have hO := OwnI.nil w
    clear hel hxe hR hX h
    go_enter Tryz.func62, Tryz.ntmps62
    go_wp2_with (go_at_call 59; refine hx1.out.mono ?_; rintro e w1 ⟨rfl, hw1⟩; replace hw1 := Lib.hid hw1)
    go_ret
    exact ⟨⟨_, rfl, hO.below hw1.out⟩, hw1.out⟩
  | true =>
    have hR : behindZ bs D n = (keysB bs).filter (behP bs D n) := by unfold behindZ; rw [hX]; rfl
    rw [hR]
    rw [hX] at hx1
    have hO := OwnI.nil w
    have hkey : Hid (∀ i (hi : i < bs.length), (keysB bs)[i]'(by omega) = bs[i].first) := Lib.hid fun i hi => by simp [keysB]
    clear hR hX h
    go_enter Tryz.func62, Tryz.ntmps62
    go_wp2_with (go_at_call 59; refine hx1.out.mono ?_; rintro e w1 ⟨rfl, hw1⟩; replace hw1 := Lib.hid hw1)
    go_loopw [5, 6] (fun ov iv wx => ∃ i : Nat, iv = .int .i64 i ∧ i ≤ bs.length ∧ Hid (OwnI w wx ov (((keysB bs).take i).filter (behP bs D n))) ∧ Hid (Below w.heap.size w wx)) (fun _ iv _ => bs.length - (intOf iv).toNat)
    case atStart => exact ⟨0, rfl, by omega, Lib.hid (hO.below hw1.out), hw1⟩
    case round =>
      clear hw1 hO
      obtain ⟨i, rfl, hi, hO, hb⟩ := hrel
      by_cases hlt : i < bs.length
      · have hltI : (i : Int) < bs.length := by omega
        obtain ⟨b, o, p, q, rfl, hr, -⟩ := hel.out wr hb.out i hlt
        have hcf : wr.cell? ⟨b, o + i * 4, none⟩ = some (.int .i64 bs[i].first) := by have := hr 0 _ rfl; rwa [Nat.add_zero] at this
        have hk := hkey.out i hlt
        have htk : (keysB bs).take (i + 1) = (keysB bs).take i ++ [bs[i].first] := by rw [List.take_succ_eq_append_getElem (by omega), hk]
        have hfl : (((keysB bs).take i).filter (behP bs D n)).length ≤ 100 := by
          have := List.length_filter_le (behP bs D n) ((keysB bs).take i)
          rw [List.length_take] at this
          omega
        have hx := hxe.out wr hb.out (bs[i].first : Int)
        cases hp : exitsZ bs D n (bs[i].first : Int) with
        | true =>
          have hfi : Hid (((keysB bs).take (i + 1)).filter (behP bs D n) = ((keysB bs).take i).filter (behP bs D n)) := Lib.hid (by rw [htk, List.filter_append]; unfold behP; simp [hp])
          rw [hp] at hx
          generalize ((keysB bs).take i).filter (behP bs D n) = T at *
          generalize bs[i].first = F at *
          replace hx := Lib.hid hx
          clear hp htk hk hr
          go_wp2_with (go_at_call 59; refine hx.out.mono ?_; rintro e w2 ⟨rfl, hw2⟩; have hO2 := Lib.hid (hO.out.below hw2); replace hw2 := Lib.hid (xtrans hb.out hw2))
          refine ⟨⟨i + 1, by go_num, by omega, Lib.hid (by rw [hfi.out]; exact hO2.out), hw2⟩, by simp [intOf]; omega⟩
        | false =>
          have hfi : Hid (((keysB bs).take (i + 1)).filter (behP bs D n) = ((keysB bs).take i).filter (behP bs D n) ++ [bs[i].first]) := Lib.hid (by rw [htk, List.filter_append]; unfold behP; simp [hp])
          rw [hp] at hx
          generalize ((keysB bs).take i).filter (behP bs D n) = T at *
          generalize bs[i].first = F at *
          replace hx := Lib.hid hx
          clear hp htk hk
          go_wp2_with (first
            | (go_at_call 59; refine hx.out.mono ?_; rintro e w2 ⟨rfl, hw2⟩; have hO2 := Lib.hid (hO.out.below hw2); have hcf2 := cbel hw2 hcf; replace hw2 := Lib.hid (xtrans hb.out hw2); have hsb := (xalloc hw2.out (.cells #[.int .i64 (F : Int)] 3)).size)
            | (at_builtin; refine wpList_append_row (w2.alloc (.cells #[.int .i64 (F : Int)] 3)) rfl _ _ 42 rfl w.heap.size 3 i0 (.int .i64 0) 8 Tryz.underlying42 hi0 hz0 hz1 hz2 rfl _ T.length _ rfl (hO2.out.alloc _) (some ⟨w2.heap.size, 0, none⟩) 1 .i64 [(F : Int)] rfl (by simp) (rowAt_one w2 3 (F : Int)) (by unfold maxLen; simp; omega) (by simp; omega) hsb ?_; intro v3 w3 ho3 hg3; have hb3 := (xalloc hw2.out _).grown hg3 hsb (fun j hj => (hO2.out.lt j hj).1); replace hb3 := Lib.hid hb3; replace ho3 := Lib.hid ho3; clear hg3))
          refine ⟨⟨i + 1, by go_num, by omega, Lib.hid (by rw [hfi.out]; exact OwnI.snoc ho3.out), hb3⟩, by simp [intOf]; omega⟩
      · obtain rfl : i = bs.length := by omega
        rw [← hkl, List.take_length] at hO
        clear hlt
        go_wp2
        go_ret
        exact ⟨⟨_, rfl, hO.out⟩, hb.out⟩
end Go.Proofs.YtijkdabmegbcjaaGreatDoor
namespace Go.Proofs.YtijkdabmegbcjaaGreatDoor
open Go.RowKit

set_option maxRecDepth 100000 in
theorem ref12Behind_any (cs : List Nat) (n : Int) (a : Option Addr) (c : Nat) (w : World) (h : CodeAt w a c cs) (hl : cs.length ≤ 100) :
    Calls Tryz.prog 31 #[.slice a cs.length c, .int .i64 n] w fun e w' => (∃ v, e = .returned v ∧ OwnI w w' v (behindZ (blksN cs) cs.length n)) ∧ Below w.heap.size w w' := by
  have hb1 := Lib.hid (refBlocks_any cs a c w h)
  have hbl := blksN_len cs
  have hx := Lib.hid fun p q W h => refBehindB_any (blksN cs) cs.length (graph_code cs) n p q W h (by omega) hl
  generalize behindZ (blksN cs) cs.length n = R at *
  generalize blksN cs = bs at *
  clear h
  go_enter Tryz.func31, Tryz.ntmps31
  go_wp2_with (first
    | (go_at_call 15; refine hb1.out.mono ?_; rintro e w1 ⟨⟨p, q, rfl, hP, -⟩, hw1⟩; replace hP := Lib.hid hP; replace hw1 := Lib.hid hw1)
    | (go_at_call 62; refine (hx.out p q _ hP.out).mono ?_; rintro e w2 ⟨⟨v, rfl, hv⟩, hw2⟩; replace hv := Lib.hid (OwnI.base hv hw1.out.size); replace hw2 := Lib.hid hw2))
  go_ret
  exact ⟨⟨_, rfl, hv.out⟩, xtrans hw1.out hw2.out⟩
def meetP (bs : List BlkN) (D : Nat) (n : Int) (L : Nat) (m : Nat) : Bool := decide ((m : Int) ≠ n) && decide ((behindN bs D m).length + 1 = L)
def meetZ (bs : List BlkN) (D : Nat) (n : Int) : Option Nat := (behindZ bs D n).find? (meetP bs D n (behindZ bs D n).length)
theorem meetZ_nat (bs : List BlkN) (D k : Nat) : meetZ bs D k = meetN bs D k := by
  unfold meetZ meetN meetP
  rw [behindZ_nat]
  congr 1
  funext m
  congr 1
  rw [Bool.eq_iff_iff]
  simp only [decide_eq_true_eq]
  omega
theorem meetZ_neg {bs : List BlkN} {D : Nat} {n : Int} (h : n < 0) : meetZ bs D n = none := by unfold meetZ; rw [behindZ_neg h]; rfl
set_option maxRecDepth 100000 in
set_option maxHeartbeats 2000000 in
theorem refMeetB_any (bs : List BlkN) (D : Nat) (g : Graph bs D) (n : Int) (a : Option Addr) (c : Nat) (w : World) (h : BlksAt w a c bs) (hl : bs.length ≤ 100) (hD : D ≤ 100) :
    Calls Tryz.prog 58 #[.slice a bs.length c, .int .i64 n] w fun e w' => e = .returned (atV (meetZ bs D n)) ∧ Below w.heap.size w w' := by
  have hb1 := Lib.hid (refBehindB_any bs D g n a c w h hl hD)
  have hbk := Lib.hid fun W (hW : Below w.heap.size w W) (k : Nat) => refBehindB_any bs D g (k : Int) a c W (h.below hW) hl hD
  have hMl : (behindZ bs D n).length ≤ bs.length := behindZ_len n
  have hR : Hid (meetZ bs D n = (behindZ bs D n).find? (meetP bs D n (behindZ bs D n).length)) := Lib.hid rfl
  generalize behindZ bs D n = M at *
  generalize meetZ bs D n = R at *
  clear h g
  unfold atV
  go_enter Tryz.func58, Tryz.ntmps58
  go_wp2_with (go_at_call 62; refine hb1.out.mono ?_; rintro e w1 ⟨⟨v, rfl, hv⟩, hw1⟩; obtain ⟨a1, c1, rfl, hI1, -⟩ := hv.at; replace hI1 := Lib.hid hI1; replace hw1 := Lib.hid hw1; clear hv)
  go_loopw [7] (fun iv wx => ∃ i : Nat, iv = .int .i64 i ∧ i ≤ M.length ∧ Hid (∀ j (hj : j < M.length), j < i → meetP bs D n M.length M[j] = false) ∧ Hid (Below w1.heap.size w1 wx)) (fun iv _ => M.length - (intOf iv).toNat)
  case atStart => exact ⟨0, rfl, by omega, Lib.hid (fun j _ h => absurd h (by omega)), Lib.hid (xrefl w1)⟩
  case round =>
    obtain ⟨i, rfl, hi, hno, hb⟩ := hrel
    by_cases hlt : i < M.length
    · have hltI : (i : Int) < M.length := by omega
      obtain ⟨b, o, rfl, hc⟩ := (hI1.out.below hb.out).get hlt
      have hnx : Hid (meetP bs D n M.length M[i] = false → ∀ j (hj : j < M.length), j < i + 1 → meetP bs D n M.length M[j] = false) := Lib.hid fun e j hj hji => by
        by_cases e2 : j = i
        · subst e2; exact e
        · exact hno.out j hj (by omega)
      have hyes : Hid (meetP bs D n M.length M[i] = true → R = some M[i]) := Lib.hid fun e => by
        rw [hR.out, List.find?_eq_some_iff_getElem]
        exact ⟨e, i, hlt, rfl, fun j hj => by rw [hno.out j (by omega) hj]; rfl⟩
      have hbw := Lib.hid (xtrans hw1.out hb.out)
      have hbm := hbk.out wr hbw.out M[i]
      rw [behindZ_nat] at hbm
      have hbl : (behindN bs D M[i]).length ≤ 100 := by have := behindZ_len (bs := bs) (D := D) (M[i] : Int); rw [behindZ_nat] at this; omega
      unfold meetP at hnx hyes
      generalize M[i] = m at *
      generalize behindN bs D m = B at *
      replace hbm := Lib.hid hbm
      by_cases hmn : (m : Int) = n
      · subst hmn
        go_wp2
        exact ⟨⟨i + 1, by go_num, by omega, Lib.hid (hnx.out (by simp)), hb⟩, by simp [intOf]; omega⟩
      · by_cases hLm : B.length + 1 = M.length
        · have hLI : ((B.length : Nat) : Int) = (M.length : Int) - 1 := by omega
          replace hLm := Lib.hid hLm
          go_wp2_with (go_at_call 62; refine hbm.out.mono ?_; rintro e w2 ⟨⟨v, rfl, hv⟩, hw2⟩; obtain ⟨a2, c2, rfl, hI2, -⟩ := hv.at; have hc2 := cbel hw2 hc; replace hw2 := Lib.hid (xtrans hbw.out hw2); clear hv hI2)
          go_ret2
          exact ⟨by rw [hyes.out (by simp [hmn, hLm.out])]; rfl, hw2.out⟩
        · have hLI : ¬ ((B.length : Nat) : Int) = (M.length : Int) - 1 := by omega
          replace hLm := Lib.hid hLm
          go_wp2_with (go_at_call 62; refine hbm.out.mono ?_; rintro e w2 ⟨⟨v, rfl, hv⟩, hw2⟩; obtain ⟨a2, c2, rfl, hI2, -⟩ := hv.at; replace hw2 := Lib.hid (xtrans hb.out hw2); clear hv hI2)
          exact ⟨⟨i + 1, by go_num, by omega, Lib.hid (hnx.out (by simp [hLm.out])), hw2⟩, by simp [intOf]; omega⟩
    · obtain rfl : i = M.length := by omega
      have hn : R = none := by
        rw [hR.out, List.find?_eq_none]
        intro x hx
        obtain ⟨j, hj, rfl⟩ := List.getElem_of_mem hx
        rw [hno.out j hj hj]; simp
      subst hn
      clear hlt
      go_wp2
      go_ret2
      exact ⟨rfl, xtrans hw1.out hb.out⟩
set_option maxRecDepth 100000 in
theorem ref12Meet_any (cs : List Nat) (n : Int) (a : Option Addr) (c : Nat) (w : World) (h : CodeAt w a c cs) (hl : cs.length ≤ 100) :
    Calls Tryz.prog 27 #[.slice a cs.length c, .int .i64 n] w fun e w' => e = .returned (atV (meetZ (blksN cs) cs.length n)) ∧ Below w.heap.size w w' := by
  have hb1 := Lib.hid (refBlocks_any cs a c w h)
  have hbl := blksN_len cs
  have hx := Lib.hid fun p q W h => refMeetB_any (blksN cs) cs.length (graph_code cs) n p q W h (by omega) hl
  generalize meetZ (blksN cs) cs.length n = R at *
  generalize blksN cs = bs at *
  unfold atV at *
  clear h
  go_enter Tryz.func27, Tryz.ntmps27
  go_wp2_with (first
    | (go_at_call 15; refine hb1.out.mono ?_; rintro e w1 ⟨⟨p, q, rfl, hP, -⟩, hw1⟩; replace hP := Lib.hid hP; replace hw1 := Lib.hid hw1)
    | (go_at_call 58; refine (hx.out p q _ hP.out).mono ?_; rintro e w2 ⟨rfl, hw2⟩; replace hw2 := Lib.hid hw2))
  go_ret2
  exact ⟨rfl, xtrans hw1.out hw2.out⟩
end Go.Proofs.YtijkdabmegbcjaaGreatDoor
namespace Go.Proofs.YtijkdabmegbcjaaGreatDoor
open Go.RowKit Go.Shelf

/-- What is behind each block for sure, in memory. -/
structure BehG (lo : Nat) (w : World) (gb : Nat) (bs : List BlkN) (hb : Nat) (F : Nat → Option (List Nat)) : Prop where
  c1 : w.cell? ⟨gb, 1, none⟩ = some (.map (some hb))
  glo : lo ≤ gb
  hlo : lo ≤ hb
  beh : BehAt lo w hb F
  ins : ∀ k K, F k = some K → K.Nodup ∧ ∀ b, b ∈ K ↔ Beh (nextOf bs) (exitOf bs) k b
  out : ∀ k, F k = none ↔ ¬ Ends (nextOf bs) (exitOf bs) k
def MeetAt (lo : Nat) (w : World) (gb : Nat) (bs : List BlkN) : Prop := ∃ hb F, BehG lo w gb bs hb F
/-- A graph in memory: the blocks, and what is behind each for sure. -/
structure GraphAt (lo : Nat) (w : World) (gb : Nat) (bs : List BlkN) : Prop where
  map : ∃ mb, w.cell? ⟨gb, 0, none⟩ = some (.map (some mb)) ∧ lo ≤ mb ∧ MapB lo w mb bs
  meet : MeetAt lo w gb bs
section
variable {lo : Nat} {w w' : World} {gb hb : Nat} {bs : List BlkN} {F : Nat → Option (List Nat)}
theorem BehG.below (h : BehG lo w gb bs hb F) (hB : Below w.heap.size w w') : BehG lo w' gb bs hb F :=
  ⟨cbel hB h.c1, h.glo, h.hlo, h.beh.below hB, h.ins, h.out⟩
theorem MeetAt.below (h : MeetAt lo w gb bs) (hB : Below w.heap.size w w') : MeetAt lo w' gb bs := by
  obtain ⟨hb, F, h⟩ := h
  exact ⟨hb, F, h.below hB⟩
theorem MeetAt.old (h : MeetAt lo w gb bs) (ho : Old lo w w') : MeetAt lo w' gb bs := by
  obtain ⟨hb, F, h⟩ := h
  obtain ⟨E, clk, h1, h2, hp, h3⟩ := h.beh
  have same : ∀ b, lo ≤ b → b < w.heap.size → w'.heap[b]? = w.heap[b]? := fun b h1 h2 => ho b ⟨h1, h2⟩
  refine ⟨hb, F, ho.cell h.glo h.c1, h.glo, h.hlo, ⟨E, clk, (same hb h.hlo h.beh.lt).trans h1, h2, hp, fun k => ⟨(h3 k).1, fun K hK => ?_⟩⟩, h.ins, h.out⟩
  obtain ⟨b, e1, e2, e3, e4⟩ := (h3 k).2 K hK
  exact ⟨b, e1, e2, e3, e4.same (same b e3 e4.lt)⟩
theorem BehG.len {D : Nat} (g : Graph bs D) (h : BehG lo w gb bs hb F) {k : Nat} {K : List Nat} (hK : F k = some K) : K.length = (behindN bs D k).length := by
  obtain ⟨h1, h2⟩ := h.ins k K hK
  have a := h1.length_le_of_subset (l₂ := behindN bs D k) fun x hx => (mem_behind g).2 ((h2 x).1 hx)
  have b := (behind_sl g k).nodup.length_le_of_subset (l₂ := K) fun x hx => (h2 x).2 ((mem_behind g).1 hx)
  omega
theorem BehG.mem {D : Nat} (g : Graph bs D) (h : BehG lo w gb bs hb F) {k : Nat} {K : List Nat} (hK : F k = some K) (x : Nat) : x ∈ K ↔ x ∈ behindN bs D k := ((h.ins k K hK).2 x).trans (mem_behind g).symm
theorem BehG.no {D : Nat} (g : Graph bs D) (h : BehG lo w gb bs hb F) {k : Nat} (hK : F k = none) : behindN bs D k = [] := by
  have h1 := (h.out k).1 hK
  cases e : behindN bs D k with
  | nil => rfl
  | cons x l => exact absurd ((exits_ends g).1 ((behind_ne g).1 (by rw [e]; simp))) h1
theorem BehG.in (h : BehG lo w gb bs hb F) {k : Nat} {K : List Nat} (hK : F k = some K) {x : Nat} (hx : x ∈ K) : ∃ L, F x = some L := by
  cases e : F x with
  | some L => exact ⟨L, rfl⟩
  | none => exact absurd (((h.ins k K hK).2 x).1 hx).ends ((h.out x).1 e)
end
section
variable {P : Program} {t k e : TypeId} {w : World} {b : Nat} {F : Nat → Option (List Nat)} {o : Oper} {a : Act}
theorem exec_lookBG (t k e : TypeId) (x y : Operand) (ho : o.op = .lookup t x y false) (ht : P.underlying t = some (.map k e)) (hk : P.underlying k = some (.int .i64)) (hz : ∀ w, (zeroValue e).run P w = .ok (.map none) w) (b : Nat) (n : Int) (F : Nat → Option (List Nat)) (hn : n < 0 ∨ F n.toNat = none)
    (hx : a.eval x = .map (some b)) (hy : a.eval y = .int .i64 n) {lo : Nat} (h : BehAt lo w b F) : (execOp a.eval o).run P w = .ok (.value (.map none)) w := by
  by_cases h0 : n < 0
  · exact exec_lookBN t k e x y ho ht hk hz b n h0 F hx hy h
  · obtain ⟨m, rfl⟩ := Int.eq_ofNat_of_zero_le (Int.not_lt.1 h0)
    exact exec_lookB0 t k e x y ho ht hk hz b m F (by rcases hn with h | h; omega; simpa using h) hx hy h
end
set_option maxRecDepth 100000 in
set_option maxHeartbeats 8000000 in
theorem meet_any (bs : List BlkN) (D : Nat) (g : Graph bs D) (gb : Nat) (n : Int) {lo : Nat} (w : World) (h : MeetAt lo w gb bs) (hl : bs.length ≤ 200) :
    Calls Tryz.prog 57 #[.pointer (some ⟨gb, 0, none⟩), .int .i64 n] w fun e w' => e = .returned (atV (meetZ bs D n)) ∧ Below w.heap.size w w' := by
  obtain ⟨bh, F, h⟩ := h
  have c1 := h.c1
  have hzm : ∀ w, (zeroValue 95).run Tryz.prog w = .ok (.map none) w := fun _ => rfl
  have hB := Lib.hid h.beh
  have hbl := hB.out.lt
  by_cases hn : n < 0 ∨ F n.toNat = none
  · have hm : meetZ bs D n = none := by
      by_cases h0 : n < 0
      · exact meetZ_neg h0
      · obtain ⟨k, rfl⟩ := Int.eq_ofNat_of_zero_le (Int.not_lt.1 h0)
        rw [meetZ_nat]
        have := h.no g (k := k) (by rcases hn with h | h; omega; simpa using h)
        unfold meetN
        rw [this]; rfl
    rw [hm]
    have hrg := run_range_nilMap (P := Tryz.prog) w 95 3 4 Tryz.underlying95
    have hnx : ∀ ty, (Instr.next (.pointer (some ⟨w.heap.size, 0, none⟩)) false ty).run Tryz.prog (w.alloc (.mapIter none 0 #[] 0)) = _ := fun ty => run_next_nilMap w ty 0 0 #[]
    have hbb : Below w.heap.size w (w.alloc (.mapIter none 0 #[] 0)) := xalloc (xrefl w) _
    replace hbb := Lib.hid hbb
    replace hn := Lib.hid hn
    clear h hm
    unfold atV
    go_enter Tryz.func57, Tryz.ntmps57
    go_wp2_with (refine wpList_exec rfl (.map none) (exec_lookBG 97 3 95 _ _ rfl Tryz.underlying97 Tryz.underlying3 hzm bh n F hn.out rfl rfl hB.out) ?_)
    refine wp_loop_rounds 1 ?_
    rw [rounds_succ]
    go_wp2
    go_ret2
    exact ⟨rfl, hbb.out⟩
  · obtain ⟨k, rfl⟩ : ∃ k : Nat, n = k := Int.eq_ofNat_of_zero_le (Int.not_lt.1 fun h => hn (.inl h))
    obtain ⟨K, hK⟩ : ∃ K, F k = some K := by
      cases e : F k with
      | some K => exact ⟨K, rfl⟩
      | none => exact absurd (.inr (by simpa using e)) hn
    clear hn
    have hR : Hid (∀ x, meetZ bs D k = some x ↔ x ∈ K ∧ x ≠ k ∧ (behindN bs D x).length + 1 = K.length) := Lib.hid fun x => by
      rw [meetZ_nat, meet_iff g, h.mem g hK, h.len g hK]
    have hlen := Lib.hid fun x L (hL : F x = some L) => h.len g hL
    have hin := Lib.hid fun x (hx : x ∈ K) => h.in hK hx
    have hKl : K.length ≤ 200 := by rw [h.len g hK]; exact Nat.le_trans (behind_len g k) hl
    have hBn := Lib.hid fun x => behind_len g x
    generalize meetZ bs D k = R at *
    clear h
    have hzi : ∀ w, (zeroValue 4).run Tryz.prog w = .ok (.bool false) w := fun _ => by kernel_rfl
    obtain ⟨ob, hlk, hob, hS⟩ := hB.out.look (P := Tryz.prog) (t := 97) (k := 3) (e := 95) Tryz.underlying97 Tryz.underlying3 hzm k hK
    have hobl := hS.lt
    have hSo := Lib.hid hS
    obtain ⟨E, clk, hE1, hE2⟩ := hS
    have hrg := range_Q (P := Tryz.prog) (t := 95) Tryz.underlying95 hE1
    have hb9 : Below w.heap.size w (w.alloc (itQ ob clk [])) := xalloc (xrefl w) _
    obtain ⟨it, hit⟩ : ∃ it, it = w.heap.size := ⟨_, rfl⟩
    have hi9 : (w.alloc (itQ ob clk [])).heap[it]? = some (itQ ob clk []) := by rw [hit]; exact World.alloc_heap_new w _
    have hs9 : (w.alloc (itQ ob clk [])).heap.size = w.heap.size + 1 := World.size_alloc _ _
    replace hE1 := Lib.hid hE1
    replace hE2 := Lib.hid hE2
    unfold atV
    go_enter Tryz.func57, Tryz.ntmps57
    go_wp2
    rw [← hit]
    generalize w.alloc (itQ ob clk []) = w9 at *
    have hit1 : w.heap.size ≤ it := by omega
    have hit2 : it < w9.heap.size := by omega
    replace hit := Lib.hid hit
    replace hi9 := Lib.hid hi9
    replace hb9 := Lib.hid hb9
    replace hlk := Lib.hid hlk
    clear hrg hs9
    go_loopw [7] (fun _ wx => ∃ S : List Nat, Hid (S.Nodup ∧ ∀ s ∈ S, ∃ e ∈ E, e.2.2 = s) ∧ Hid (wx.heap[it]? = some (itQ ob clk S)) ∧ Hid (∀ e ∈ E, e.2.2 ∈ S → R ≠ some e.1.toNat) ∧ Hid (Only (· = it) w9 wx)) (fun _ wx => E.length - seenQ wx it)
    case atStart => exact ⟨[], Lib.hid ⟨List.nodup_nil, by simp⟩, hi9, Lib.hid (fun e _ h => by cases h), Lib.hid (Only.refl _ _)⟩
    case round =>
      clear hi9
      obtain ⟨S, hSn, hi, hno, hon⟩ := hrel
      have hb := Lib.hid (hon.out.below hb9.out hb9.out.size (by rintro i rfl; omega))
      have hm : wr.heap[ob]? = some (mapQ .i64 E clk) := (hb.out.block ob hobl).trans hE1.out
      have c1r : wr.cell? ⟨gb, 1, none⟩ = some (.map (some bh)) := cbel hb.out c1
      have hsl : seenQ wr it = S.length := seenQ_eq hi.out
      rcases next_Q (P := Tryz.prog) 0 hi.out hm (fun e he => hE2.out.lt e he) with ⟨hall, hrun⟩ | ⟨e, he, hns, W2, hrun, hon2, hi2⟩
      · have hrun' : ∀ ty, (Instr.next (.pointer (some ⟨it, 0, none⟩)) false ty).run Tryz.prog wr = _ := fun ty => hrun
        have hRn : R = none := by
          cases hR2 : R with
          | none => rfl
          | some x =>
            obtain ⟨h1, -, -⟩ := (hR.out x).1 hR2
            obtain ⟨e, he, h3⟩ := hE2.out.mem.1 h1
            exact absurd (by rw [hR2, h3]; rfl) (hno.out e he (hall e he))
        subst hRn
        clear hrun hall
        go_wp2
        go_ret2
        exact ⟨rfl, hb.out⟩
      · have hrun' : ∀ ty, (Instr.next (.pointer (some ⟨it, 0, none⟩)) false ty).run Tryz.prog wr = _ := fun ty => hrun
        have hm2 := (hon2.same ob (by have := hb.out.size; omega) (by omega)).trans hm
        have hen := entry_Q (P := Tryz.prog) he hE2.out.sn hi2 hm2
        obtain ⟨x, hxK, hex⟩ := hE2.out.nat he
        have hev := hE2.out.val e he
        have hslt := stamps_lt hSn.out.1 hSn.out.2 he hns
        have hSn2 : Hid ((S ++ [e.2.2]).Nodup ∧ ∀ s ∈ S ++ [e.2.2], ∃ e ∈ E, e.2.2 = s) := Lib.hid ⟨List.nodup_append.2 ⟨hSn.out.1, by simp, fun a ha b hb h => hns (by simp at hb; rw [← hb, ← h]; exact ha)⟩, fun s hs => by
          rcases List.mem_append.1 hs with h | h
          · exact hSn.out.2 s h
          · rw [List.mem_singleton] at h; exact ⟨e, he, h.symm⟩⟩
        have hno2 : Hid (R ≠ some x → ∀ e' ∈ E, e'.2.2 ∈ S ++ [e.2.2] → R ≠ some e'.1.toNat) := Lib.hid fun hne e' he' hs => by
          rcases List.mem_append.1 hs with h | h
          · exact hno.out e' he' h
          · rw [List.mem_singleton] at h
            have : e' = e := nodup_inj hE2.out.sn he' he h
            rw [this, hex, Int.toNat_natCast]; exact hne
        have hon3 := Lib.hid (hon.out.trans hon2)
        have hb2 := Lib.hid (hon3.out.below hb9.out hb9.out.size (by rintro i rfl; omega))
        obtain ⟨L, hL⟩ := hin.out x hxK
        have hLl := hlen.out x L hL
        have c2 : W2.cell? ⟨gb, 1, none⟩ = some (.map (some bh)) := cbel hb2.out c1
        obtain ⟨cx, hlx, hcx, hSx⟩ := (hB.out.below hb2.out).look (P := Tryz.prog) (t := 97) (k := 3) (e := 95) Tryz.underlying97 Tryz.underlying3 hzm x hL
        replace hSx := Lib.hid hSx
        have hSo2 := Lib.hid (hSo.out.below hb2.out)
        have hRx := hR.out x
        rw [hex, hev] at hrun' hen
        have hi2' := Lib.hid hi2
        have hsl2 : Hid (seenQ W2 it = S.length + 1) := Lib.hid (by rw [seenQ_eq hi2, List.length_append]; rfl)
        have hKp : 0 < K.length := List.length_pos_iff.2 (by rintro rfl; cases hxK)
        have hLK : L.length ≤ 200 := by rw [hLl]; exact Nat.le_trans (hBn.out x) hl
        generalize e.2.2 = st at *
        replace hsl := Lib.hid hsl
        replace hRx := Lib.hid hRx
        clear hi2 hm2 hrun hon2 hns he hev hex hm hL
        have hwk : IntKind.i64.wrap ((K.length : Int) - 1) = (K.length : Int) - 1 := by simp [IntKind.wrap, IntKind.bits, IntKind.signed]; omega
        by_cases hxk : x = k
        · have hxI : ((x : Int) != (k : Int)) = false := by rw [hxk]; simp
          have hno3 := Lib.hid (hno2.out fun h => ((hRx.out.1 h).2.1 hxk))
          clear hno2 hlx hRx
          go_wp2
          refine ⟨⟨S ++ [st], hSn2, hi2', hno3, hon3⟩, ?_⟩
          rw [hsl.out, hsl2.out]; omega
        · have hxI : ((x : Int) != (k : Int)) = true := by simp; omega
          have hl1 := hSx.out.len (P := Tryz.prog) (t := 95) (k := 3) (e := 4) Tryz.underlying95 3
          have hl2 := hSo2.out.len (P := Tryz.prog) (t := 95) (k := 3) (e := 4) Tryz.underlying95 3
          replace hLl := Lib.hid hLl
          by_cases hlk2 : L.length + 1 = K.length
          · have hq : ((L.length : Int) == (K.length : Int) - 1) = true := by simp; omega
            have hRs : R = some x := hRx.out.2 ⟨hxK, hxk, by rw [← hLl.out]; exact hlk2⟩
            subst hRs
            clear hno2 hRx
            go_wp2
            go_ret2
            exact ⟨rfl, hb2.out⟩
          · have hq : ((L.length : Int) == (K.length : Int) - 1) = false := by simp; omega
            have hno3 := Lib.hid (hno2.out fun h => hlk2 (by rw [hLl.out]; exact (hRx.out.1 h).2.2))
            clear hno2 hRx
            go_wp2
            refine ⟨⟨S ++ [st], hSn2, hi2', hno3, hon3⟩, ?_⟩
            rw [hsl.out, hsl2.out]; omega
end Go.Proofs.YtijkdabmegbcjaaGreatDoor
