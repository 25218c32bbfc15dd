/- Texts of this claim, merged; no condition. -/
import Derived.Test.YtbicfaiabpcgfaaGreatDoorD15
set_option linter.all false
namespace Go.Proofs.YtbicfaiabpcgfaaGreatDoor
open Go.RowKit

set_option maxRecDepth 100000 in
set_option maxHeartbeats 16000000 in
theorem partial_any (b cap off a n : Nat) (T : TypeId) (rest : List Value) (zs : List Int) (w : World) (hS : SrtAt w b T rest zs) (hoff : off = 0) (han : a < n) (hn : n ≤ zs.length) (hl : zs.length ≤ 1000000) :
    Calls Tryz.prog 107 #[.slice (some ⟨b, off, none⟩) zs.length cap, .int .i64 a, .int .i64 n] w fun e w' => (∃ v, e = .returned v ∧ ∃ t : Bool, v = .bool t) ∧ SrtP b T rest zs w w' := by
  have h0 := Lib.hid (SrtP.refl hS)
  replace hoff := Lib.hid hoff
  clear hS
  go_enter Tryz.func107, Tryz.ntmps107
  go_wp2
  go_loopw [7, 8] (fun vi vs wr => ∃ i s : Nat, vi = .int .i64 i ∧ vs = .int .i64 s ∧ s ≤ 5 ∧ a + 1 ≤ i ∧ i ≤ n ∧ Hid (SrtP b T rest zs w wr)) (fun _ vs _ => 5 - (intOf vs).toNat)
  case atStart => exact ⟨a + 1, 0, by go_num, rfl, by omega, by omega, by omega, h0⟩
  case round =>
    clear h0
    obtain ⟨i, s, rfl, rfl, hs5, hai, hin, hP⟩ := hrel
    by_cases hs : s < 5
    · go_wp2
      go_loopw [7] (fun vi wr2 => ∃ k : Nat, vi = .int .i64 k ∧ i ≤ k ∧ k ≤ n ∧ Hid (SrtP b T rest zs w wr2)) (fun vi _ => n - (intOf vi).toNat)
      case atStart => exact ⟨i, rfl, Nat.le_refl _, hin, hP⟩
      case round =>
        clear hP
        obtain ⟨k, rfl, hik, hkn, hP⟩ := hrel
        obtain ⟨G, hcw, hfw, hsw⟩ := hP.out.open hoff.out
        replace hsw := Lib.hid hsw
        by_cases hkl : k < n
        · have hkl2 : k < zs.length := by omega
          have hkne : ((k : Int) == (n : Int)) = false := by simp; omega
          have hkne2 : ¬ (k : Int) = (n : Int) := by omega
          go_wp2
          go_quiet (first | (go_at_call 108; refine Calls.quiet_of_same (less_any _ _ _)))
          go_wp2
          · go_roundw
            case rel => exact ⟨k + 1, by go_num, by omega, by omega, Lib.hid (hP.out.drewN _)⟩
            case measure => simp [intOf] <;> omega
          · go_ret
            exact ⟨⟨_, rfl, _, rfl⟩, hP.out.drewN _⟩
          · go_region
            have hP3 := Lib.hid (hsw.out (nq + 1) k (k - 1) (by omega) (by omega))
            clear hP hcw hfw hsw
            have hP := hP3
            clear hP3
            by_cases hnk : n - k ≥ 2
            · have hnkI : (2 : Int) ≤ (n : Int) - (k : Int) := by omega
              by_cases hka : k - a ≥ 2
              · have hkaI : (2 : Int) ≤ (k : Int) - (a : Int) := by omega
                go_wp2
                go_loopw [9] (fun vj wr2 => ∃ j2 : Nat, vj = .int .i64 j2 ∧ j2 ≤ k - 1 ∧ Hid (SrtP b T rest zs w wr2)) (fun vj _ => (intOf vj).toNat)
                case atStart => exact ⟨k - 1, by congr 1; omega, by omega, hP⟩
                case round =>
                  clear hP
                  obtain ⟨j2, rfl, hj1, hP⟩ := hrel
                  by_cases hjn : 1 ≤ j2
                  · obtain ⟨G, hcw, hfw, hsw⟩ := hP.out.open hoff.out
                    replace hsw := Lib.hid hsw
                    have hj2l : j2 < zs.length := by omega
                    go_wp2
                    go_quiet (first | (go_at_call 108; refine Calls.quiet_of_same (less_any _ _ _)))
                    go_wp2
                    · clear hcw hfw hsw
                      go_loopw [10] (fun vj wr2 => ∃ j2 : Nat, vj = .int .i64 j2 ∧ k + 1 ≤ j2 ∧ j2 ≤ n ∧ Hid (SrtP b T rest zs w wr2)) (fun vj _ => n - (intOf vj).toNat)
                      case atStart => exact ⟨k + 1, by go_num, by omega, by omega, Lib.hid (hP.out.drewN _)⟩
                      case round =>
                        clear hP
                        obtain ⟨j2, rfl, hj1, hj2, hP⟩ := hrel
                        by_cases hjn : j2 < n
                        · obtain ⟨G, hcw, hfw, hsw⟩ := hP.out.open hoff.out
                          replace hsw := Lib.hid hsw
                          go_wp2
                          go_quiet (first | (go_at_call 108; refine Calls.quiet_of_same (less_any _ _ _)))
                          go_wp2
                          · go_roundw
                            case rel => exact ⟨k, s + 1, rfl, by go_num, by omega, by omega, by omega, Lib.hid (hP.out.drewN _)⟩
                            case measure => simp [intOf] <;> omega
                          · go_region
                            all_goals go_wp2
                            go_roundw
                            case rel => exact ⟨j2 + 1, by go_num, by omega, by omega, Lib.hid (hsw.out _ j2 (j2 - 1) (by omega) (by omega))⟩
                            case measure => simp [intOf] <;> omega
                        · go_wp2
                          go_roundw
                          case rel => exact ⟨k, s + 1, rfl, by go_num, by omega, by omega, by omega, hP⟩
                          case measure => simp [intOf] <;> omega
                    · go_region
                      all_goals go_wp2
                      go_roundw
                      case rel => exact ⟨j2 - 1, by congr 1; omega, by omega, Lib.hid (hsw.out _ j2 (j2 - 1) (by omega) (by omega))⟩
                      case measure => simp [intOf] <;> omega
                  · go_wp2
                    go_loopw [10] (fun vj wr2 => ∃ j2 : Nat, vj = .int .i64 j2 ∧ k + 1 ≤ j2 ∧ j2 ≤ n ∧ Hid (SrtP b T rest zs w wr2)) (fun vj _ => n - (intOf vj).toNat)
                    case atStart => exact ⟨k + 1, by go_num, by omega, by omega, hP⟩
                    case round =>
                      clear hP
                      obtain ⟨j2, rfl, hj1, hj2, hP⟩ := hrel
                      by_cases hjn : j2 < n
                      · obtain ⟨G, hcw, hfw, hsw⟩ := hP.out.open hoff.out
                        replace hsw := Lib.hid hsw
                        go_wp2
                        go_quiet (first | (go_at_call 108; refine Calls.quiet_of_same (less_any _ _ _)))
                        go_wp2
                        · go_roundw
                          case rel => exact ⟨k, s + 1, rfl, by go_num, by omega, by omega, by omega, Lib.hid (hP.out.drewN _)⟩
                          case measure => simp [intOf] <;> omega
                        · go_region
                          all_goals go_wp2
                          go_roundw
                          case rel => exact ⟨j2 + 1, by go_num, by omega, by omega, Lib.hid (hsw.out _ j2 (j2 - 1) (by omega) (by omega))⟩
                          case measure => simp [intOf] <;> omega
                      · go_wp2
                        go_roundw
                        case rel => exact ⟨k, s + 1, rfl, by go_num, by omega, by omega, by omega, hP⟩
                        case measure => simp [intOf] <;> omega
              · have hkaI : (k : Int) - (a : Int) < 2 := by omega
                go_wp2
                go_loopw [10] (fun vj wr2 => ∃ j2 : Nat, vj = .int .i64 j2 ∧ k + 1 ≤ j2 ∧ j2 ≤ n ∧ Hid (SrtP b T rest zs w wr2)) (fun vj _ => n - (intOf vj).toNat)
                case atStart => exact ⟨k + 1, by go_num, by omega, by omega, hP⟩
                case round =>
                  clear hP
                  obtain ⟨j2, rfl, hj1, hj2, hP⟩ := hrel
                  by_cases hjn : j2 < n
                  · obtain ⟨G, hcw, hfw, hsw⟩ := hP.out.open hoff.out
                    replace hsw := Lib.hid hsw
                    go_wp2
                    go_quiet (first | (go_at_call 108; refine Calls.quiet_of_same (less_any _ _ _)))
                    go_wp2
                    · go_roundw
                      case rel => exact ⟨k, s + 1, rfl, by go_num, by omega, by omega, by omega, Lib.hid (hP.out.drewN _)⟩
                      case measure => simp [intOf] <;> omega
                    · go_region
                      all_goals go_wp2
                      go_roundw
                      case rel => exact ⟨j2 + 1, by go_num, by omega, by omega, Lib.hid (hsw.out _ j2 (j2 - 1) (by omega) (by omega))⟩
                      case measure => simp [intOf] <;> omega
                  · go_wp2
                    go_roundw
                    case rel => exact ⟨k, s + 1, rfl, by go_num, by omega, by omega, by omega, hP⟩
                    case measure => simp [intOf] <;> omega
            · have hnkI : (n : Int) - (k : Int) < 2 := by omega
              by_cases hka : k - a ≥ 2
              · have hkaI : (2 : Int) ≤ (k : Int) - (a : Int) := by omega
                go_wp2
                go_loopw [9] (fun vj wr2 => ∃ j2 : Nat, vj = .int .i64 j2 ∧ j2 ≤ k - 1 ∧ Hid (SrtP b T rest zs w wr2)) (fun vj _ => (intOf vj).toNat)
                case atStart => exact ⟨k - 1, by congr 1; omega, by omega, hP⟩
                case round =>
                  clear hP
                  obtain ⟨j2, rfl, hj1, hP⟩ := hrel
                  by_cases hjn : 1 ≤ j2
                  · obtain ⟨G, hcw, hfw, hsw⟩ := hP.out.open hoff.out
                    replace hsw := Lib.hid hsw
                    have hj2l : j2 < zs.length := by omega
                    go_wp2
                    go_quiet (first | (go_at_call 108; refine Calls.quiet_of_same (less_any _ _ _)))
                    go_wp2
                    · clear hcw hfw hsw
                      go_roundw
                      case rel => exact ⟨k, s + 1, rfl, by go_num, by omega, by omega, by omega, Lib.hid (hP.out.drewN _)⟩
                      case measure => simp [intOf] <;> omega
                    · go_region
                      all_goals go_wp2
                      go_roundw
                      case rel => exact ⟨j2 - 1, by congr 1; omega, by omega, Lib.hid (hsw.out _ j2 (j2 - 1) (by omega) (by omega))⟩
                      case measure => simp [intOf] <;> omega
                  · go_wp2
                    go_roundw
                    case rel => exact ⟨k, s + 1, rfl, by go_num, by omega, by omega, by omega, hP⟩
                    case measure => simp [intOf] <;> omega
              · have hkaI : (k : Int) - (a : Int) < 2 := by omega
                go_wp2
                try
                  go_roundw
                  case rel => exact ⟨k, s + 1, rfl, by go_num, by omega, by omega, by omega, hP⟩
                  case measure => simp [intOf] <;> omega
        · obtain rfl : k = n := by omega
          go_wp2
          go_quiet (first | (go_at_call 108; refine Calls.quiet_of_same (less_any _ _ _)))
          go_wp2
          go_ret
          exact ⟨⟨_, rfl, _, rfl⟩, hP.out.drewN _⟩
    · go_wp2
      go_ret
      exact ⟨⟨_, rfl, _, rfl⟩, hP.out⟩
end Go.Proofs.YtbicfaiabpcgfaaGreatDoor
namespace Go.Proofs.YtbicfaiabpcgfaaGreatDoor
open Go.RowKit

/-- The count of swaps, in a block of its own. -/
def Sw (w : World) (sb : Nat) : Prop := ∃ c : Int, w.cell? ⟨sb, 0, none⟩ = some (.int .i64 c) ∧ w.frozen? ⟨sb, 0, none⟩ = false
/-- A row that stays, and the count. -/
structure Md (b : Nat) (T : TypeId) (rest : List Value) (zs : List Int) (sb : Nat) (w : World) : Prop where
  row : SrtAt w b T rest zs
  cnt : Sw w sb
  ne : sb ≠ b
  lt : sb < w.heap.size
structure MdP (b : Nat) (T : TypeId) (rest : List Value) (zs : List Int) (sb : Nat) (w w' : World) : Prop where
  md : Md b T rest zs sb w'
  on : Only (· = sb) w w'
section
variable {w w' w2 : World} {b sb : Nat} {T : TypeId} {rest : List Value} {zs : List Int}
theorem MdP.trans (h : MdP b T rest zs sb w w') (k : MdP b T rest zs sb w' w2) : MdP b T rest zs sb w w2 := ⟨k.1, h.2.trans k.2⟩
theorem Md.drewN (h : Md b T rest zs sb w) (n : Nat) : Md b T rest zs sb (w.drewN n) := ⟨h.row, h.cnt, h.ne, h.lt⟩
theorem MdP.drewN (h : Md b T rest zs sb w) (n : Nat) : MdP b T rest zs sb w (w.drewN n) := ⟨h.drewN n, ⟨rfl, rfl, rfl, Nat.le_refl _, fun _ _ _ => rfl⟩⟩
theorem Md.set (h : Md b T rest zs sb w) (n : Nat) (x : Int) : MdP b T rest zs sb w ((w.drewN n).setCell ⟨sb, 0, none⟩ (.int .i64 x)) := by
  obtain ⟨h1, ⟨c, h2, h3⟩, h4, h5⟩ := h
  have ho : Only (· = sb) w ((w.drewN n).setCell ⟨sb, 0, none⟩ (.int .i64 x)) := (⟨rfl, rfl, rfl, Nat.le_refl _, fun _ _ _ => rfl⟩ : Only (· = sb) w (w.drewN n)).setCell _ _ rfl
  have hc : (w.drewN n).cell? ⟨sb, 0, none⟩ = some (.int .i64 c) := h2
  have hf : (w.drewN n).frozen? ⟨sb, 0, none⟩ = false := h3
  refine ⟨⟨BlkG.only h1 ho (fun e => h4 e.symm), ⟨x, ?_, ?_⟩, h4, by simpa [World.setCell] using h5⟩, ho⟩
  · exact World.cell?_setCell_same _ _ _ hc
  · rw [World.frozen?_setCell]; exact hf
end
set_option maxRecDepth 100000 in
set_option maxHeartbeats 4000000 in
theorem order2_any (b cap off x y sb : Nat) (T : TypeId) (rest : List Value) (zs : List Int) (w : World) (hM : Md b T rest zs sb w) (hoff : off = 0) (hx : x < zs.length) (hy : y < zs.length) (hl : zs.length ≤ 1000000) :
    Calls Tryz.prog 133 #[.slice (some ⟨b, off, none⟩) zs.length cap, .int .i64 x, .int .i64 y, .pointer (some ⟨sb, 0, none⟩)] w fun e w' => (∃ x' y' : Nat, e = .returned (.tuple #[.int .i64 x', .int .i64 y']) ∧ (x' = x ∧ y' = y ∨ x' = y ∧ y' = x)) ∧ MdP b T rest zs sb w w' := by
  obtain ⟨G, hcw, hfw, -⟩ := (SrtP.refl hM.1).open hoff
  obtain ⟨-, ⟨c, hc, hf⟩, -, -⟩ := id hM
  replace hM := Lib.hid hM
  clear hoff
  go_enter Tryz.func133, Tryz.ntmps133
  go_wp2
  go_quiet (first | (go_at_call 108; refine Calls.quiet_of_same (less_any _ _ _)))
  go_wp2
  · go_ret2
    exact ⟨⟨y, x, rfl, .inr ⟨rfl, rfl⟩⟩, hM.out.set _ _⟩
  · go_ret2
    exact ⟨⟨x, y, rfl, .inl ⟨rfl, rfl⟩⟩, MdP.drewN hM.out _⟩
set_option maxRecDepth 100000 in
set_option maxHeartbeats 4000000 in
theorem median_any (b cap off x y z sb : Nat) (T : TypeId) (rest : List Value) (zs : List Int) (w : World) (hM : Md b T rest zs sb w) (hoff : off = 0) (hx : x < zs.length) (hy : y < zs.length) (hz : z < zs.length) (hl : zs.length ≤ 1000000) :
    Calls Tryz.prog 127 #[.slice (some ⟨b, off, none⟩) zs.length cap, .int .i64 x, .int .i64 y, .int .i64 z, .pointer (some ⟨sb, 0, none⟩)] w fun e w' => (∃ m : Nat, e = .returned (.int .i64 m) ∧ (m = x ∨ m = y ∨ m = z)) ∧ MdP b T rest zs sb w w' := by
  have ho := Lib.hid fun (x y : Nat) W (hM : Md b T rest zs sb W) hx hy => order2_any b cap off x y sb T rest zs W hM hoff hx hy hl
  have h1 := Lib.hid (ho.out x y w hM hx hy)
  replace hM := Lib.hid hM
  clear hoff
  go_enter Tryz.func127, Tryz.ntmps127
  go_wp2_with (first
    | (go_at_call 133; (with_reducible refine h1.out.mono ?_); rintro e w1 ⟨⟨x1, y1, rfl, hxy⟩, hP1⟩; have hy1 : y1 < zs.length := (by omega); have hx1 : x1 < zs.length := (by omega); have h2 := Lib.hid (ho.out y1 z w1 hP1.md hy1 hz); replace hxy := Lib.hid hxy; replace hP1 := Lib.hid hP1; clear h1)
    | (go_at_call 133; (with_reducible refine h2.out.mono ?_); rintro e w2 ⟨⟨y2, z2, rfl, hyz⟩, hP2⟩; have hy2 : y2 < zs.length := (by omega); have h3 := Lib.hid (ho.out x1 y2 w2 hP2.md hx1 hy2); replace hyz := Lib.hid hyz; replace hP2 := Lib.hid (hP1.out.trans hP2); clear h2)
    | (go_at_call 133; (with_reducible refine h3.out.mono ?_); rintro e w3 ⟨⟨x3, y3, rfl, hxy3⟩, hP3⟩; replace hxy3 := Lib.hid hxy3; replace hP3 := Lib.hid (hP2.out.trans hP3); clear h3))
  go_ret
  exact ⟨⟨y3, rfl, by have := hxy.out; have := hyz.out; have := hxy3.out; omega⟩, hP3.out⟩
set_option maxRecDepth 100000 in
set_option maxHeartbeats 4000000 in
theorem medianAdj_any (b cap off x sb : Nat) (T : TypeId) (rest : List Value) (zs : List Int) (w : World) (hM : Md b T rest zs sb w) (hoff : off = 0) (hx0 : 1 ≤ x) (hx : x + 1 < zs.length) (hl : zs.length ≤ 1000000) :
    Calls Tryz.prog 126 #[.slice (some ⟨b, off, none⟩) zs.length cap, .int .i64 x, .pointer (some ⟨sb, 0, none⟩)] w fun e w' => (∃ m : Nat, e = .returned (.int .i64 m) ∧ x ≤ m + 1 ∧ m ≤ x + 1) ∧ MdP b T rest zs sb w w' := by
  obtain ⟨u, hu⟩ : ∃ u : Nat, u = x - 1 := ⟨_, rfl⟩
  obtain ⟨v, hv⟩ : ∃ v : Nat, v = x + 1 := ⟨_, rfl⟩
  have huI : (x : Int) - 1 = (u : Int) := by omega
  have hvI : (x : Int) + 1 = (v : Int) := by omega
  have ho := Lib.hid (median_any b cap off u x v sb T rest zs w hM hoff (by omega) (by omega) (by omega) hl)
  clear hoff
  replace hu := Lib.hid hu
  replace hv := Lib.hid hv
  go_enter Tryz.func126, Tryz.ntmps126
  go_wp2_with (go_at_call 127; refine ho.out.mono ?_; rintro e w1 ⟨⟨m, rfl, hm⟩, hP1⟩; replace hm := Lib.hid hm; replace hP1 := Lib.hid hP1)
  go_ret
  exact ⟨⟨m, rfl, by have := hm.out; have := hu.out; have := hv.out; omega, by have := hm.out; have := hu.out; have := hv.out; omega⟩, hP1.out⟩
end Go.Proofs.YtbicfaiabpcgfaaGreatDoor
namespace Go.Proofs.YtbicfaiabpcgfaaGreatDoor
open Go.RowKit

theorem Md.new {w : World} {b : Nat} {T : TypeId} {rest : List Value} {zs : List Int} (h : SrtAt w b T rest zs) (T' : TypeId) (c : Int) : Md b T rest zs w.heap.size (w.alloc (.cells #[.int .i64 c] T')) := by
  have hb := BlkG.lt h
  have hN : BlkG (w.alloc (.cells #[.int .i64 c] T')) w.heap.size T' [.int .i64 c] := BlkG.new w _ _
  exact ⟨BlkG.alloc h _, ⟨c, hN.cell 0 (by simp), hN.free 0⟩, by omega, by rw [World.size_alloc]; omega⟩
theorem MdP.srt {w w' : World} {b : Nat} {T T' : TypeId} {rest : List Value} {zs : List Int} {c : Int} (h : MdP b T rest zs w.heap.size (w.alloc (.cells #[.int .i64 c] T')) w') : SrtP b T rest zs w w' := by
  refine ⟨zs, .refl _, h.md.row, ?_⟩
  have h2 := h.on
  have hs := h2.size
  rw [World.size_alloc] at hs
  refine ⟨h2.os, h2.tape, h2.output, by omega, fun k hk _ => ?_⟩
  rw [h2.same k (by rw [World.size_alloc]; omega) (by omega)]
  exact Below.heap_alloc w _ k hk
set_option maxRecDepth 100000 in
set_option maxHeartbeats 8000000 in
theorem choose_any (b cap off a n : Nat) (T : TypeId) (rest : List Value) (zs : List Int) (w : World) (hS : SrtAt w b T rest zs) (hoff : off = 0) (han : a < n) (hn : n ≤ zs.length) (hl : zs.length ≤ 1000000) :
    Calls Tryz.prog 105 #[.slice (some ⟨b, off, none⟩) zs.length cap, .int .i64 a, .int .i64 n] w fun e w' => (∃ v, e = .returned v ∧ ∃ m h : Nat, v = .tuple #[.int .i64 m, .int .i64 h] ∧ a ≤ m ∧ m < n) ∧ SrtP b T rest zs w w' := by
  obtain ⟨l, hlen⟩ : ∃ l : Nat, l = n - a := ⟨_, rfl⟩
  obtain ⟨q, hq⟩ : ∃ q : Nat, q = l / 4 := ⟨_, rfl⟩
  obtain ⟨i, hi⟩ : ∃ i : Nat, i = a + q := ⟨_, rfl⟩
  obtain ⟨j, hj⟩ : ∃ j : Nat, j = a + q * 2 := ⟨_, rfl⟩
  obtain ⟨k, hk⟩ : ∃ k : Nat, k = a + q * 3 := ⟨_, rfl⟩
  have hlI : (n : Int) - (a : Int) = (l : Int) := by omega
  have hqI : Int.tdiv (l : Int) 4 = (q : Int) := by rw [Int.tdiv_eq_ediv_of_nonneg (by omega)]; omega
  have hiI : (a : Int) + (q : Int) = (i : Int) := by omega
  have hjI : (a : Int) + (q : Int) * 2 = (j : Int) := by omega
  have hkI : (a : Int) + (q : Int) * 3 = (k : Int) := by omega
  have hql : (q : Int) ≤ 250000 := by omega
  have hM := Md.new hS 3 0
  have hjn : j < n := by omega
  have haj : a ≤ j := by omega
  have hfin : ∀ w', MdP b T rest zs w.heap.size (w.alloc (.cells #[.int .i64 0] 3)) w' → SrtP b T rest zs w w' := fun w' h => h.srt
  have hM0 : MdP b T rest zs w.heap.size (w.alloc (.cells #[.int .i64 0] 3)) (w.alloc (.cells #[.int .i64 0] 3)) := ⟨hM, Only.refl _ _⟩
  have hc0 : (w.alloc (.cells #[.int .i64 0] 3)).cell? ⟨w.heap.size, 0, none⟩ = some (.int .i64 0) := (BlkG.new w 3 [.int .i64 0]).cell 0 (by simp)
  have hadj := Lib.hid fun (x : Nat) W (hM : Md b T rest zs w.heap.size W) h0 h1 => medianAdj_any b cap off x w.heap.size T rest zs W hM hoff h0 h1 hl
  have hmed := Lib.hid fun (x y z : Nat) W (hM : Md b T rest zs w.heap.size W) hx hy hz => median_any b cap off x y z w.heap.size T rest zs W hM hoff hx hy hz hl
  replace hfin := Lib.hid hfin
  replace hM0 := Lib.hid hM0
  have hi' := Lib.hid hi
  have hj' := Lib.hid hj
  have hk' := Lib.hid hk
  have hq' := Lib.hid hq
  have hlen' := Lib.hid hlen
  clear hS hM hi hj hk hq hlen hoff
  by_cases h8 : 8 ≤ l
  · have h8I : (8 : Int) ≤ (l : Int) := by omega
    have b1 : i < zs.length := by have := hi'.out; have := hq'.out; have := hlen'.out; omega
    have b2 : j < zs.length := by omega
    have b3 : k < zs.length := by have := hk'.out; have := hq'.out; have := hlen'.out; omega
    by_cases h50 : 50 ≤ l
    · have h50I : (50 : Int) ≤ (l : Int) := by omega
      have b4 : 1 ≤ i ∧ i + 1 < zs.length ∧ 1 ≤ j ∧ j + 1 < zs.length ∧ 1 ≤ k ∧ k + 1 < zs.length ∧ a + 1 ≤ i ∧ k + 1 < n ∧ a + 1 ≤ j ∧ j + 1 < n ∧ i + 1 < n ∧ a + 1 ≤ k := by have := hi'.out; have := hk'.out; have := hj'.out; have := hq'.out; have := hlen'.out; omega
      obtain ⟨c1, c2, c3, c4, c5, c6, d1, d2, d3, d4, d5, d6⟩ := b4
      have h1 := Lib.hid (hadj.out i _ hM0.out.md c1 c2)
      go_enter Tryz.func105, Tryz.ntmps105
      go_wp2_with (first
        | (go_at_call 126; (with_reducible refine h1.out.mono ?_); rintro e w1 ⟨⟨i2, rfl, hi2⟩, hP1⟩; have h2 := Lib.hid (hadj.out j w1 hP1.md c3 c4); replace hi2 := Lib.hid hi2; replace hP1 := Lib.hid (hM0.out.trans hP1); clear h1)
        | (go_at_call 126; (with_reducible refine h2.out.mono ?_); rintro e w2 ⟨⟨j2, rfl, hj2⟩, hP2⟩; have h3 := Lib.hid (hadj.out k w2 hP2.md c5 c6); replace hj2 := Lib.hid hj2; replace hP2 := Lib.hid (hP1.out.trans hP2); clear h2)
        | (go_at_call 126; (with_reducible refine h3.out.mono ?_); rintro e w3 ⟨⟨k2, rfl, hk2⟩, hP3⟩; have h4 := Lib.hid (hmed.out i2 j2 k2 w3 hP3.md (by have := hi2.out; omega) (by have := hj2.out; omega) (by omega)); replace hk2 := Lib.hid hk2; replace hP3 := Lib.hid (hP2.out.trans hP3); clear h3)
        | (go_at_call 127; (with_reducible refine h4.out.mono ?_); rintro e w4 ⟨⟨m, rfl, hm⟩, hP4⟩; have hm1 : a ≤ m := (by have := hi2.out; have := hj2.out; have := hk2.out; omega); have hm2 : m < n := (by have := hi2.out; have := hj2.out; have := hk2.out; omega); obtain ⟨-, ⟨c, hc, -⟩, -, -⟩ := hP4.md; clear hm; replace hP4 := Lib.hid (hP3.out.trans hP4); clear h4))
      all_goals
        go_ret2
        exact ⟨⟨_, rfl, m, _, rfl, hm1, hm2⟩, hfin.out _ hP4.out⟩
    · have h50I : (l : Int) < 50 := by omega
      have d : a ≤ i ∧ i < n ∧ a ≤ k ∧ k < n := by have := hi'.out; have := hk'.out; have := hj'.out; have := hq'.out; have := hlen'.out; omega
      obtain ⟨d1, d2, d3, d4⟩ := d
      have h4 := Lib.hid (hmed.out i j k _ hM0.out.md b1 b2 b3)
      go_enter Tryz.func105, Tryz.ntmps105
      go_wp2_with (go_at_call 127; (with_reducible refine h4.out.mono ?_); rintro e w4 ⟨⟨m, rfl, hm⟩, hP4⟩; have hm1 : a ≤ m := (by omega); have hm2 : m < n := (by omega); obtain ⟨-, ⟨c, hc, -⟩, -, -⟩ := hP4.md; clear hm; replace hP4 := Lib.hid (hM0.out.trans hP4); clear h4)
      all_goals
        go_ret2
        exact ⟨⟨_, rfl, m, _, rfl, hm1, hm2⟩, hfin.out _ hP4.out⟩
  · have h8I : (l : Int) < 8 := by omega
    go_enter Tryz.func105, Tryz.ntmps105
    go_wp2
    go_ret2
    exact ⟨⟨_, rfl, j, 1, rfl, haj, hjn⟩, hfin.out _ hM0.out⟩
end Go.Proofs.YtbicfaiabpcgfaaGreatDoor
