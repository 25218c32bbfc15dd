/- Texts of this claim, merged; no condition. -/
import Derived.Test.YthpallkphamobaaGreatDoorH10
import Derived.Test.YthpallkphamobaaGreatDoorH01
import Derived.Test.YthpallkphamobaaGreatDoorH09
import Derived.Test.YthpallkphamobaaGreatDoorH03
set_option linter.all false
namespace Go.Proofs.YthpallkphamobaaGreatDoor
open Go.RowKit Go.Shelf

def zAdr : List Nat := [0, 0, 0, 0, 0, 0, 0, 0, 0, 0, 0, 0, 0, 0, 0, 0, 0, 0, 0, 0]
def zAdrC : List Value := [.int .u8 0, .int .u8 0, .int .u8 0, .int .u8 0, .int .u8 0, .int .u8 0, .int .u8 0, .int .u8 0, .int .u8 0, .int .u8 0, .int .u8 0, .int .u8 0, .int .u8 0, .int .u8 0, .int .u8 0, .int .u8 0, .int .u8 0, .int .u8 0, .int .u8 0, .int .u8 0]
theorem zAdrC_eq : adrC zAdr = zAdrC := rfl
theorem addrF_bytes (s : List UInt8) : addrF s = bytesO s 20 := by
  unfold addrF bytesO
  cases unhexN s <;> rfl
set_option maxRecDepth 100000 in
set_option maxHeartbeats 8000000 in
theorem address_fail (x : List UInt8) (w : World) (hx : x.length ≤ 4194304) (h : addrF x = none) :
    Calls Tryz.prog 18 #[.string ⟨x.toArray⟩] w fun e w' => e = .returned (.tuple #[.agg zAdrC.toArray, .int .i64 190]) ∧ Below w.heap.size w w' := by
  have hB : BlkG (w.alloc (.cells zAdrC.toArray 29)) w.heap.size 29 zAdrC := BlkG.new w _ _
  have hb0 : Below w.heap.size w (w.alloc (.cells zAdrC.toArray 29)) := xalloc (xrefl w) _
  unfold zAdrC at hB hb0 ⊢
  have hct := Lib.hid fun W => cut_any x W
  rw [addrF_bytes] at h
  replace hB := Lib.hid hB
  replace hb0 := Lib.hid hb0
  cases hp : Lib.hasPrefix x [48, 120] with
  | false =>
    rw [hp] at hct
    clear h hp hx
    go_enter Tryz.func18, Tryz.ntmps18
    go_upto_region 1 with fail
    generalize w.alloc (.cells #[.int .u8 0, .int .u8 0, .int .u8 0, .int .u8 0, .int .u8 0, .int .u8 0, .int .u8 0, .int .u8 0, .int .u8 0, .int .u8 0, .int .u8 0, .int .u8 0, .int .u8 0, .int .u8 0, .int .u8 0, .int .u8 0, .int .u8 0, .int .u8 0, .int .u8 0, .int .u8 0] 29) = w0 at *
    go_wp2_with (first
      | (go_at_call 46; refine (hct.out _).mono ?_; rintro e w2 ⟨rfl, rfl⟩)
      | (refine wpList_load_mid rfl 29 _ rfl w.heap.size 0 rfl [.int .u8 0, .int .u8 0, .int .u8 0, .int .u8 0, .int .u8 0, .int .u8 0, .int .u8 0, .int .u8 0, .int .u8 0, .int .u8 0, .int .u8 0, .int .u8 0, .int .u8 0, .int .u8 0, .int .u8 0, .int .u8 0, .int .u8 0, .int .u8 0, .int .u8 0, .int .u8 0] _ (BlkG.range hB.out) Tryz.underlying29 rfl (by kernel_rfl) ?_)
      | (refine wpList_store_blkG rfl 29 _ _ rfl w.heap.size rfl 29 [.int .u8 0, .int .u8 0, .int .u8 0, .int .u8 0, .int .u8 0, .int .u8 0, .int .u8 0, .int .u8 0, .int .u8 0, .int .u8 0, .int .u8 0, .int .u8 0, .int .u8 0, .int .u8 0, .int .u8 0, .int .u8 0, .int .u8 0, .int .u8 0, .int .u8 0, .int .u8 0] [.int .u8 0, .int .u8 0, .int .u8 0, .int .u8 0, .int .u8 0, .int .u8 0, .int .u8 0, .int .u8 0, .int .u8 0, .int .u8 0, .int .u8 0, .int .u8 0, .int .u8 0, .int .u8 0, .int .u8 0, .int .u8 0, .int .u8 0, .int .u8 0, .int .u8 0, .int .u8 0] hB.out rfl rfl (by kernel_rfl) (by decide) ?_; intro w3 hB3 ho3; have hb3 := Lib.hid (ho3.below hb0.out (Below.size hb0.out) (by rintro k rfl; exact Nat.le_refl _)); replace hB3 := Lib.hid hB3; clear ho3)
    )
    exact bodyPost_ret (results_blkG2 (p := 2) rfl _ _ w.heap.size 29 _ _ rfl hB3.out Tryz.underlying29 rfl (by kernel_rfl)) rfl ⟨rfl, hb3.out⟩
  | true =>
    rw [hp] at hct
    obtain ⟨l, rfl, hl⟩ := pre_yes hp
    rw [hl] at hct
    have hsz : (⟨l.toArray⟩ : ByteArray).size = l.length := by show l.toArray.size = _; simp
    by_cases h40 : l.length = 40
    · have hno := bytes_none h rfl h40
      have hne : Lib.trimS l digS ≠ [] := fun e => hno ((trim_all l digS).1 e)
      have htr := Lib.hid fun W => trim_any l W (by omega)
      generalize Lib.trimS l digS = t at *
      have hte : t.isEmpty = false := by cases t with
        | nil => exact absurd rfl hne
        | cons _ _ => rfl
      have h40I : (l.length : Int) = 40 := by omega
      clear h hp hx hno hne h40 hl
      go_enter Tryz.func18, Tryz.ntmps18
      go_upto_region 1 with fail
      generalize w.alloc (.cells #[.int .u8 0, .int .u8 0, .int .u8 0, .int .u8 0, .int .u8 0, .int .u8 0, .int .u8 0, .int .u8 0, .int .u8 0, .int .u8 0, .int .u8 0, .int .u8 0, .int .u8 0, .int .u8 0, .int .u8 0, .int .u8 0, .int .u8 0, .int .u8 0, .int .u8 0, .int .u8 0] 29) = w0 at *
      go_wp2_with (first
      | (go_at_call 46; refine (hct.out _).mono ?_; rintro e w2 ⟨rfl, rfl⟩)
      | (go_at_call 47; refine (htr.out _).mono ?_; rintro e w2 ⟨rfl, hb2⟩; have hB2 := Lib.hid (hB.out.below hb2); replace hb2 := Lib.hid (xtrans hb0.out hb2))
      | (refine wpList_load_mid rfl 29 _ rfl w.heap.size 0 rfl [.int .u8 0, .int .u8 0, .int .u8 0, .int .u8 0, .int .u8 0, .int .u8 0, .int .u8 0, .int .u8 0, .int .u8 0, .int .u8 0, .int .u8 0, .int .u8 0, .int .u8 0, .int .u8 0, .int .u8 0, .int .u8 0, .int .u8 0, .int .u8 0, .int .u8 0, .int .u8 0] _ (BlkG.range hB2.out) Tryz.underlying29 rfl (by kernel_rfl) ?_)
      | (refine wpList_store_blkG rfl 29 _ _ rfl w.heap.size rfl 29 [.int .u8 0, .int .u8 0, .int .u8 0, .int .u8 0, .int .u8 0, .int .u8 0, .int .u8 0, .int .u8 0, .int .u8 0, .int .u8 0, .int .u8 0, .int .u8 0, .int .u8 0, .int .u8 0, .int .u8 0, .int .u8 0, .int .u8 0, .int .u8 0, .int .u8 0, .int .u8 0] [.int .u8 0, .int .u8 0, .int .u8 0, .int .u8 0, .int .u8 0, .int .u8 0, .int .u8 0, .int .u8 0, .int .u8 0, .int .u8 0, .int .u8 0, .int .u8 0, .int .u8 0, .int .u8 0, .int .u8 0, .int .u8 0, .int .u8 0, .int .u8 0, .int .u8 0, .int .u8 0] hB2.out rfl rfl (by kernel_rfl) (by decide) ?_; intro w3 hB3 ho3; have hb3 := Lib.hid (ho3.below hb2.out (Below.size hb2.out) (by rintro k rfl; exact Nat.le_refl _)); replace hB3 := Lib.hid hB3; clear ho3)
      )
      exact bodyPost_ret (results_blkG2 (p := 2) rfl _ _ w.heap.size 29 _ _ rfl hB3.out Tryz.underlying29 rfl (by kernel_rfl)) rfl ⟨rfl, hb3.out⟩
    · have h40I : ¬ (l.length : Int) = 40 := by omega
      clear h hp hx h40 hl
      go_enter Tryz.func18, Tryz.ntmps18
      go_upto_region 1 with fail
      generalize w.alloc (.cells #[.int .u8 0, .int .u8 0, .int .u8 0, .int .u8 0, .int .u8 0, .int .u8 0, .int .u8 0, .int .u8 0, .int .u8 0, .int .u8 0, .int .u8 0, .int .u8 0, .int .u8 0, .int .u8 0, .int .u8 0, .int .u8 0, .int .u8 0, .int .u8 0, .int .u8 0, .int .u8 0] 29) = w0 at *
      go_wp2_with (first
      | (go_at_call 46; refine (hct.out _).mono ?_; rintro e w2 ⟨rfl, rfl⟩)
      | (refine wpList_load_mid rfl 29 _ rfl w.heap.size 0 rfl [.int .u8 0, .int .u8 0, .int .u8 0, .int .u8 0, .int .u8 0, .int .u8 0, .int .u8 0, .int .u8 0, .int .u8 0, .int .u8 0, .int .u8 0, .int .u8 0, .int .u8 0, .int .u8 0, .int .u8 0, .int .u8 0, .int .u8 0, .int .u8 0, .int .u8 0, .int .u8 0] _ (BlkG.range hB.out) Tryz.underlying29 rfl (by kernel_rfl) ?_)
      | (refine wpList_store_blkG rfl 29 _ _ rfl w.heap.size rfl 29 [.int .u8 0, .int .u8 0, .int .u8 0, .int .u8 0, .int .u8 0, .int .u8 0, .int .u8 0, .int .u8 0, .int .u8 0, .int .u8 0, .int .u8 0, .int .u8 0, .int .u8 0, .int .u8 0, .int .u8 0, .int .u8 0, .int .u8 0, .int .u8 0, .int .u8 0, .int .u8 0] [.int .u8 0, .int .u8 0, .int .u8 0, .int .u8 0, .int .u8 0, .int .u8 0, .int .u8 0, .int .u8 0, .int .u8 0, .int .u8 0, .int .u8 0, .int .u8 0, .int .u8 0, .int .u8 0, .int .u8 0, .int .u8 0, .int .u8 0, .int .u8 0, .int .u8 0, .int .u8 0] hB.out rfl rfl (by kernel_rfl) (by decide) ?_; intro w3 hB3 ho3; have hb3 := Lib.hid (ho3.below hb0.out (Below.size hb0.out) (by rintro k rfl; exact Nat.le_refl _)); replace hB3 := Lib.hid hB3; clear ho3)
      )
      exact bodyPost_ret (results_blkG2 (p := 2) rfl _ _ w.heap.size 29 _ _ rfl hB3.out Tryz.underlying29 rfl (by kernel_rfl)) rfl ⟨rfl, hb3.out⟩
end Go.Proofs.YthpallkphamobaaGreatDoor
namespace Go.Proofs.YthpallkphamobaaGreatDoor
open Go.RowKit Go.Shelf

theorem adrC_put (a : List Nat) (ha : a.length = 20) (k : Nat) (hk : k < 20) (z : Nat) (hz : a[k]'(by omega) = z) : (adrC (a.take k ++ List.replicate (20 - k) 0)).set k (.int .u8 z) = adrC (a.take (k + 1) ++ List.replicate (20 - (k + 1)) 0) := by
  have h1 : (a.take k).length = k := by rw [List.length_take]; omega
  have h2 : 20 - k = (20 - (k + 1)) + 1 := by omega
  rw [List.take_succ_eq_append_getElem (by omega), hz, h2, List.replicate_succ]
  unfold adrC natI
  rw [List.map_append, List.map_append, List.map_append, List.map_append, List.map_append, List.map_append, List.set_append_right _ _ (by simp; omega)]
  have hm : min k a.length = k := by omega
  simp [hm]
theorem adrC_zero (a : List Nat) (ha : a.length = 20) (k : Nat) (hk : k < 20) : (adrC (a.take k ++ List.replicate (20 - k) 0))[k]? = some (.int .u8 0) := by
  have h1 : (a.take k).length = k := by rw [List.length_take]; omega
  unfold adrC natI
  rw [List.getElem?_map, List.getElem?_map, List.getElem?_append_right (by omega), h1, Nat.sub_self, List.getElem?_replicate, if_pos (by omega)]
  rfl
set_option maxRecDepth 100000 in
set_option maxHeartbeats 8000000 in
theorem address_good (x : List UInt8) (a : List Nat) (w : World) (hx : x.length ≤ 4194304) (h : addrF x = some a) :
    Calls Tryz.prog 18 #[.string ⟨x.toArray⟩] w fun e w' => e = .returned (.tuple #[adrV a, .int .i64 0]) ∧ Below w.heap.size w w' := by
  have hB : BlkG (w.alloc (.cells zAdrC.toArray 29)) w.heap.size 29 zAdrC := BlkG.new w _ _
  have hb0 : Below w.heap.size w (w.alloc (.cells zAdrC.toArray 29)) := xalloc (xrefl w) _
  rw [addrF_bytes] at h
  obtain ⟨l, rfl, hl, hdg, hun⟩ := (bytes_iff x 20 a).1 h
  have ha20 : a.length = 20 := by have := (unhexP_some hun).2.2; omega
  have hget := Lib.hid fun k hk => unhexP_get hun k hk
  have ht : Lib.trimS l digS = [] := (trim_all l digS).2 hdg
  have hct := Lib.hid fun W => cut_any (48 :: 120 :: l) W
  rw [show Lib.trimPrefix (48 :: 120 :: l) [48, 120] = l from rfl, show Lib.hasPrefix (48 :: 120 :: l) [48, 120] = true from rfl] at hct
  have htr := Lib.hid fun W => trim_any l W (by simp at hx; omega)
  rw [ht] at htr
  have hsz : (⟨l.toArray⟩ : ByteArray).size = l.length := by show l.toArray.size = _; simp
  have h40I : (l.length : Int) = 40 := by omega
  have hat := Lib.hid fun j (hj : j < l.length) W => run_at_str l j hj W
  have hz0 : zAdrC = adrC (a.take 0 ++ List.replicate (20 - 0) 0) := rfl
  have hput := Lib.hid (adrC_put a ha20)
  have hzer := Lib.hid (adrC_zero a ha20)
  have hfin : a.take 20 ++ List.replicate (20 - 20) 0 = a := by rw [List.take_of_length_le (by omega)]; simp
  have hB : BlkG (w.alloc (.cells zAdrC.toArray 29)) w.heap.size 29 (adrC (a.take 0 ++ List.replicate (20 - 0) 0)) := by rw [← hz0]; exact hB
  replace hB := Lib.hid hB
  replace hb0 := Lib.hid hb0
  unfold zAdrC at hB hb0
  replace hfin := Lib.hid hfin
  clear h hx ht hun hdg hz0 hl
  unfold adrV
  go_enter Tryz.func18, Tryz.ntmps18
  go_upto_region 1 with fail
  generalize w.alloc (.cells #[.int .u8 0, .int .u8 0, .int .u8 0, .int .u8 0, .int .u8 0, .int .u8 0, .int .u8 0, .int .u8 0, .int .u8 0, .int .u8 0, .int .u8 0, .int .u8 0, .int .u8 0, .int .u8 0, .int .u8 0, .int .u8 0, .int .u8 0, .int .u8 0, .int .u8 0, .int .u8 0] 29) = w0 at *
  go_wp2_with (first
    | (go_at_call 46; refine (hct.out _).mono ?_; rintro e w2 ⟨rfl, rfl⟩)
    | (go_at_call 47; refine (htr.out _).mono ?_; rintro e w2 ⟨rfl, hb2⟩; have hB2 := Lib.hid (hB.out.below hb2); replace hb2 := Lib.hid (xtrans hb0.out hb2)))
  go_loopw [25] (fun iv wx => ∃ k : Nat, iv = .int .i64 k ∧ k ≤ 20 ∧ Hid (BlkG wx w.heap.size 29 (adrC (a.take k ++ List.replicate (20 - k) 0))) ∧ Hid (Below w.heap.size w wx)) (fun iv _ => 20 - (intOf iv).toNat)
  case atStart => exact ⟨0, rfl, by omega, hB2, hb2⟩
  case round =>
    clear hB2 hb2 hB hb0
    obtain ⟨k, rfl, hk, hBk, hb⟩ := hrel
    by_cases hlt : k < 20
    · have hltI : (k : Int) < 20 := by omega
      obtain ⟨ca, cb, xa, yb, e1, e2, d1, d2, ez⟩ := hget.out k (by omega)
      obtain ⟨hj1, e1⟩ := List.getElem?_eq_some_iff.1 e1
      obtain ⟨hj2, e2⟩ := List.getElem?_eq_some_iff.1 e2
      have hia := fun W => hat.out (2 * k) hj1 W
      have hib := fun W => hat.out (2 * k + 1) hj2 W
      rw [e1] at hia
      rw [e2] at hib
      have hwk : IntKind.i64.wrap (2 * (k : Int)) = ((2 * k : Nat) : Int) := by simp [IntKind.wrap, IntKind.bits, IntKind.signed]; omega
      have hwk1 : IntKind.i64.wrap (((2 * k : Nat) : Int) + 1) = ((2 * k + 1 : Nat) : Int) := by simp [IntKind.wrap, IntKind.bits, IntKind.signed]; omega
      generalize 2 * k + 1 = j1 at *
      generalize 2 * k = j at *
      have hixa := Lib.hid fun W => idx_any ca W
      have hixb := Lib.hid fun W => idx_any cb W
      rw [digI_some d1] at hixa
      rw [digI_some d2] at hixb
      have hx16 := dig_lt d1
      have hy16 := dig_lt d2
      obtain ⟨z, hz⟩ : ∃ z : Nat, z = 16 * xa + yb := ⟨_, rfl⟩
      have hzor : IntKind.u8.wrap (bits .or .i64 (IntKind.i64.wrap ((xa : Int) * 16)) (yb : Int)) = (z : Int) := by rw [hz]; exact or_fin ⟨xa, hx16⟩ ⟨yb, hy16⟩
      have hnx := Lib.hid (hput.out k hlt z (by rw [ez, hz]))
      have hzk := Lib.hid (hzer.out k hlt)
      clear e1 e2 d1 d2 hz ez
      generalize ca.toNat = an at *
      generalize cb.toNat = bn at *
      go_wp2_with fail
      refine' wp_region_growL 16 [fixd (.int .i64 k), fixd (.string ⟨l.toArray⟩), fixd (.int .i64 k), fixd (.int .i64 j), fixd (.int .u8 an), fixd (.int .i64 xa), fixd (.int .i64 (IntKind.i64.wrap ((xa : Int) * 16))), fixd (.string ⟨l.toArray⟩), fixd (.int .i64 k), fixd (.int .i64 j), fixd (.int .i64 j1), fixd (.int .u8 bn), fixd (.int .i64 yb), fixd (.int .i64 (bits .or .i64 (IntKind.i64.wrap ((xa : Int) * 16)) (yb : Int))), fixd (.int .u8 z), fixd (.pointer (some ⟨w.heap.size, k, none⟩))] (by kernel_rfl) (by kernel_rfl) ?_
      simp only [List.take_succ_cons, List.take_zero, List.drop_succ_cons, List.drop_zero]
      try simp only [Act.put, List.setIfInBounds_toArray, List.set_cons_succ, List.set_cons_zero, List.nil_append, List.cons_append]
      apply wpGrowV_fix (.int .i64 k) rfl rfl
      · intro W hb hF
        go_simp
        first | exact xrefl W | exact ⟨rfl, xrefl W⟩ | exact ⟨by omega, xrefl W⟩
      try simp only [Act.put, List.setIfInBounds_toArray, List.set_cons_succ, List.set_cons_zero, List.nil_append, List.cons_append]
      apply wpGrowV_fix (.string ⟨l.toArray⟩) rfl rfl
      · intro W hb hF
        go_simp
        first | exact xrefl W | exact ⟨rfl, xrefl W⟩ | exact ⟨by omega, xrefl W⟩
      try simp only [Act.put, List.setIfInBounds_toArray, List.set_cons_succ, List.set_cons_zero, List.nil_append, List.cons_append]
      apply wpGrowV_fix (.int .i64 k) rfl rfl
      · intro W hb hF
        go_simp
        first | exact xrefl W | exact ⟨rfl, xrefl W⟩ | exact ⟨by omega, xrefl W⟩
      try simp only [Act.put, List.setIfInBounds_toArray, List.set_cons_succ, List.set_cons_zero, List.nil_append, List.cons_append]
      apply wpGrowV_fix (.int .i64 j) rfl rfl
      · intro W hb hF
        go_simp
        first | exact xrefl W | exact ⟨rfl, xrefl W⟩ | exact ⟨by omega, xrefl W⟩
      try simp only [Act.put, List.setIfInBounds_toArray, List.set_cons_succ, List.set_cons_zero, List.nil_append, List.cons_append]
      apply wpGrowV_fix (.int .u8 an) rfl rfl
      · intro W hb hF
        go_simp
        first | exact xrefl W | exact ⟨rfl, xrefl W⟩ | exact ⟨by omega, xrefl W⟩
      try simp only [Act.put, List.setIfInBounds_toArray, List.set_cons_succ, List.set_cons_zero, List.nil_append, List.cons_append]
      apply wpGrowV_fix (.int .i64 xa) rfl rfl
      · intro W hb hF
        go_simp
        go_at_call 48
        refine (hixa.out W).mono ?_
        rintro e w' ⟨rfl, rfl⟩
        exact ⟨rfl, xrefl _⟩
      try simp only [Act.put, List.setIfInBounds_toArray, List.set_cons_succ, List.set_cons_zero, List.nil_append, List.cons_append]
      apply wpGrowV_fix (.int .i64 (IntKind.i64.wrap ((xa : Int) * 16))) rfl rfl
      · intro W hb hF
        go_simp
        first | exact xrefl W | exact ⟨rfl, xrefl W⟩ | exact ⟨by omega, xrefl W⟩
      try simp only [Act.put, List.setIfInBounds_toArray, List.set_cons_succ, List.set_cons_zero, List.nil_append, List.cons_append]
      apply wpGrowV_fix (.string ⟨l.toArray⟩) rfl rfl
      · intro W hb hF
        go_simp
        first | exact xrefl W | exact ⟨rfl, xrefl W⟩ | exact ⟨by omega, xrefl W⟩
      try simp only [Act.put, List.setIfInBounds_toArray, List.set_cons_succ, List.set_cons_zero, List.nil_append, List.cons_append]
      apply wpGrowV_fix (.int .i64 k) rfl rfl
      · intro W hb hF
        go_simp
        first | exact xrefl W | exact ⟨rfl, xrefl W⟩ | exact ⟨by omega, xrefl W⟩
      try simp only [Act.put, List.setIfInBounds_toArray, List.set_cons_succ, List.set_cons_zero, List.nil_append, List.cons_append]
      apply wpGrowV_fix (.int .i64 j) rfl rfl
      · intro W hb hF
        go_simp
        first | exact xrefl W | exact ⟨rfl, xrefl W⟩ | exact ⟨by omega, xrefl W⟩
      try simp only [Act.put, List.setIfInBounds_toArray, List.set_cons_succ, List.set_cons_zero, List.nil_append, List.cons_append]
      apply wpGrowV_fix (.int .i64 j1) rfl rfl
      · intro W hb hF
        go_simp
        first | exact xrefl W | exact ⟨rfl, xrefl W⟩ | exact ⟨by omega, xrefl W⟩
      try simp only [Act.put, List.setIfInBounds_toArray, List.set_cons_succ, List.set_cons_zero, List.nil_append, List.cons_append]
      apply wpGrowV_fix (.int .u8 bn) rfl rfl
      · intro W hb hF
        go_simp
        first | exact xrefl W | exact ⟨rfl, xrefl W⟩ | exact ⟨by omega, xrefl W⟩
      try simp only [Act.put, List.setIfInBounds_toArray, List.set_cons_succ, List.set_cons_zero, List.nil_append, List.cons_append]
      apply wpGrowV_fix (.int .i64 yb) rfl rfl
      · intro W hb hF
        go_simp
        go_at_call 48
        refine (hixb.out W).mono ?_
        rintro e w' ⟨rfl, rfl⟩
        exact ⟨rfl, xrefl _⟩
      try simp only [Act.put, List.setIfInBounds_toArray, List.set_cons_succ, List.set_cons_zero, List.nil_append, List.cons_append]
      apply wpGrowV_fix (.int .i64 (bits .or .i64 (IntKind.i64.wrap ((xa : Int) * 16)) (yb : Int))) rfl rfl
      · intro W hb hF
        go_simp
        first | exact xrefl W | exact ⟨rfl, xrefl W⟩ | exact ⟨by omega, xrefl W⟩
      try simp only [Act.put, List.setIfInBounds_toArray, List.set_cons_succ, List.set_cons_zero, List.nil_append, List.cons_append]
      apply wpGrowV_fix (.int .u8 z) rfl rfl
      · intro W hb hF
        go_simp
        first | exact xrefl W | exact ⟨rfl, xrefl W⟩ | exact ⟨by omega, xrefl W⟩
      try simp only [Act.put, List.setIfInBounds_toArray, List.set_cons_succ, List.set_cons_zero, List.nil_append, List.cons_append]
      apply wpGrowV_fix (.pointer (some ⟨w.heap.size, k, none⟩)) rfl rfl
      · intro W hb hF
        go_simp
        first | exact xrefl W | exact ⟨rfl, xrefl W⟩ | exact ⟨by omega, xrefl W⟩
      try simp only [Act.put, List.setIfInBounds_toArray, List.set_cons_succ, List.set_cons_zero, List.nil_append, List.cons_append]
      intro W3 hbW _
      have hB3 := hBk.out.below hbW
      have cz := blk_cell hB3 hzk.out
      have fz := hB3.free k
      replace hb := Lib.hid (xtrans hb.out hbW)
      replace hB3 := Lib.hid hB3
      go_wp2
      have hB4 := hB3.out.set k (.int .u8 z)
      rw [hnx.out] at hB4
      have ho : Only (· = w.heap.size) W3 (W3.setCell ⟨w.heap.size, k, none⟩ (.int .u8 z)) := (Only.refl _ _).setCell _ _ rfl
      exact ⟨⟨k + 1, by first | rfl | simp, by omega, Lib.hid hB4, Lib.hid (ho.below hb.out hb.out.size (by rintro q rfl; exact Nat.le_refl _))⟩, by simp [intOf]; omega⟩
    · obtain rfl : k = 20 := by omega
      rw [hfin.out] at hBk
      have hA20 : (adrC a).length = 20 := by rw [adrC_len, ha20]
      have hone : (adrC a).all (·.oneCell') = true := by simp [adrC, Value.oneCell']
      have hsize : w.heap.size ≤ w.heap.size := Nat.le_refl _
      go_wp2_with (first
        | (refine wpList_load_mid rfl 29 _ rfl w.heap.size 0 rfl (adrC a) _ (BlkG.range hBk.out) Tryz.underlying29 rfl (by rw [hA20]; kernel_rfl) ?_)
        | (refine wpList_store_blkG rfl 29 _ _ rfl w.heap.size rfl 29 (adrC a) (adrC a) hBk.out rfl rfl (by rw [hA20]; kernel_rfl) hone ?_; intro w3 hB3 ho3; have hb3 := Lib.hid (ho3.below hb.out (Below.size hb.out) (by rintro q rfl; exact Nat.le_refl _)); replace hB3 := Lib.hid hB3; clear ho3))
      exact bodyPost_ret (results_blkG2 (p := 2) rfl _ _ w.heap.size 29 _ _ rfl hB3.out Tryz.underlying29 rfl (by rw [hA20]; kernel_rfl)) rfl ⟨rfl, hb3.out⟩
/-- What Address answers. -/
def adrO (o : Option (List Nat)) : Value := .tuple #[adrV (o.getD zAdr), .int .i64 (if o.isSome then 0 else 190)]
theorem address_any (x : List UInt8) (w : World) (hx : x.length ≤ 4194304) :
    Calls Tryz.prog 18 #[.string ⟨x.toArray⟩] w fun e w' => e = .returned (adrO (addrF x)) ∧ Below w.heap.size w w' := by
  cases h : addrF x with
  | none => exact (address_fail x w hx h).mono fun e w' h => ⟨by rw [h.1]; unfold adrO adrV; rw [Option.getD_none, zAdrC_eq]; rfl, h.2⟩
  | some a => exact (address_good x a w hx h).mono fun e w' h => ⟨by rw [h.1]; rfl, h.2⟩
end Go.Proofs.YthpallkphamobaaGreatDoor
namespace Go.Proofs.YthpallkphamobaaGreatDoor
open Go.RowKit

theorem own_grown {w w' : World} {base : Nat} {e : TypeId} {size : Nat} {v : Value} {n : Nat} {xs : List Value} (h : w.ownsRow base e size v n xs) (hg : w.grownBy w' none) : w'.ownsRow base e size v n xs :=
  own_same h fun g _ hl => hg.block g hl (fun e => by cases e)
theorem run_append_own_keep {P : Program} (w : World) (base : Nat) (t ty e : TypeId) (i : TypeInfo) (z : Value) (size bytes : Nat) (ht : P.underlying t = some (.slice e)) (hi : P.info? e = some i) (hz : i.zero = some z)
    (hsize : i.size = size) (hby : i.bytes = bytes) (hzs : z.cells.size = size) (hsz : 0 < size) (v : Value) (n : Nat) (xs : List Value) (hown : w.ownsRow base e size v n xs)
    (a : Addr) (m c : Nat) (news : List Value) (hl : news.length = m * size) (hnews : ∀ j u, news[j]? = some u → w.cell? (a.add j) = some u) (h1 : ∀ u ∈ news, u.oneCell' = true)
    (h63 : n + m ≤ maxLen) (hbytes : (n + m) * bytes ≤ 140737488355328) (hbase : base ≤ w.heap.size) :
    ∃ v' w', (Builtin.append_ #[t, t] ty #[v, .slice (some a) m c]).run P w = .ok v' w' ∧ w'.ownsRow base e size v' (n + m) (xs ++ news) ∧ w.grownBy w' v.ownBlock ∧
      (v'.ownBlock = v.ownBlock ∨ ∀ k, v'.ownBlock = some k → w.heap.size ≤ k) ∧ w'.ownsRow base e size v n xs ∧ ∀ u, w.ownsRow base e size u (n + m) (xs ++ news) → w'.ownsRow base e size u (n + m) (xs ++ news) := by
  obtain ⟨v', w', hr, ho, hg, hbk⟩ := run_append_own_blkV (P := P) w base t ty e i z size bytes ht hi hz hsize hby hzs hsz v n xs hown a m c news hl hnews h1 h63 hbytes hbase
  refine ⟨v', w', hr, ho, hg, hbk, ?_⟩
  have none_case : w.grownBy w' none → w'.ownsRow base e size v n xs ∧ ∀ u, w.ownsRow base e size u (n + m) (xs ++ news) → w'.ownsRow base e size u (n + m) (xs ++ news) := fun h => ⟨own_grown hown h, fun u hu => own_grown hu h⟩
  rcases hown.2 with ⟨rfl, rfl⟩ | ⟨g, cap, cur, rfl, hbg, hgg, hnc, hcm, hcs, htake⟩
  · exact none_case hg
  · by_cases hroom : n + m ≤ cap
    · have hcells : ∀ j, j < cur.size → w.cell? ⟨g, j, none⟩ = cur[j]? := fun j _ => by rw [cell_of_row w g j cur e (0, 0) hgg]
      have hmul : (n + m) * size ≤ cap * size := Nat.mul_le_mul_right _ hroom
      rw [Nat.add_mul] at hmul
      have hr2 := run_append_room_cells (P := P) w t ty e i ht hi g 0 n cap a m c news (by rw [hsize, hl]) hnews h1 hroom (fun j hj => by
        have hlt : 0 + n * i.size + j < cur.size := by rw [hsize, hcs]; omega
        rw [hcells _ hlt, Array.getElem?_eq_getElem hlt]; rfl) (fun j hj => frozen_of_row w g _ cur e hgg)
      rw [hr] at hr2
      obtain ⟨rfl, -⟩ : v' = .slice (some ⟨g, 0, none⟩) (n + m) cap ∧ w' = _ := by injection hr2; exact ⟨by assumption, by assumption⟩
      rcases ho.2 with ⟨h0, -⟩ | ⟨g', cap', cur', e0, hbg', hgg', hnc', hcm', hcs', htake'⟩
      · cases h0
      · injection e0 with e1 e2 e3
        injection e1 with e1
        injection e1 with e1
        subst e1 e3
        refine ⟨⟨hown.1, .inr ⟨g, cap, cur', rfl, hbg, hgg', hnc, hcm, hcs', ?_⟩⟩, fun u hu => ?_⟩
        · have := congrArg (List.take (n * size)) htake'
          rw [List.take_take, Nat.min_eq_left (Nat.mul_le_mul_right _ (by omega)), ← hown.1, List.take_left] at this
          rw [← hown.1]; exact this
        · rcases hu.2 with ⟨rfl, h0⟩ | ⟨g2, cap2, cur2, rfl, hbg2, hgg2, hnc2, hcm2, hcs2, htake2⟩
          · exact ⟨hu.1, .inl ⟨rfl, h0⟩⟩
          · by_cases hgq : g2 = g
            · subst hgq
              rw [hgg] at hgg2
              injection hgg2 with h2
              injection h2 with h2
              subst h2
              exact ⟨hu.1, .inr ⟨g2, cap2, cur', rfl, hbg2, hgg', hnc2, hcm2, by rw [hcs', ← hcs, hcs2], htake'⟩⟩
            · exact own_same hu fun k hk hlk => hg.block k hlk fun e => by
                have e2 : g2 = k := by simpa [Value.ownBlock] using hk
                have e3 : k = g := by simpa [Value.ownBlock] using e
                exact hgq (e2.trans e3)
    · obtain ⟨v2, w2, hr2, -, hg2⟩ := run_append_arg_grows (P := P) w t ty e i z size bytes ht hi hz hsize hby hzs hsz ⟨g, 0, none⟩ n cap xs hown.1 (fun j u hj => hown.cells (g := g) rfl j u hj) a m c news hl hnews (by omega) h63 hbytes
      rw [hr] at hr2
      obtain ⟨rfl, rfl⟩ : v' = v2 ∧ w' = w2 := by injection hr2; exact ⟨by assumption, by assumption⟩
      exact none_case hg2
end Go.Proofs.YthpallkphamobaaGreatDoor
namespace Go.Proofs.YthpallkphamobaaGreatDoor
open Go.RowKit

/-- Each operation behind the n-th waits for one of them, or for the n-th. -/
def treeTB (ops : Array Oper) (n : Nat) : Bool := (List.range ops.size).all fun t => decide (t ≤ n) || (List.range t).any fun j => decide (n ≤ j) && Region.waitsFor .any ops t j
theorem tail_waitsT {ops : Array Oper} {n : Nat} {listed : Array Bool} (hs : Region.sinkB .any ops n = true) (hc : treeTB ops n = true) (hn : n < ops.size) (inv : HeadInv .any ops n listed) :
    ∀ (d i : Nat), n - i = d → i < n → listed.getD i true = false → ∀ t, n ≤ t → t ∉ Region.ready .any ops listed := by
  intro d
  induction d using Nat.strongRecOn with
  | _ d ih =>
    intro i hd hi hun t ht hr
    obtain ⟨_, ot, hot, hall⟩ := mem_ready.1 hr
    have htlt : t < ops.size := (Array.getElem?_eq_some_iff.1 hot).1
    by_cases htn : t = n
    · subst htn
      have h1 := List.all_eq_true.1 hs i (List.mem_range.2 hi)
      obtain ⟨j, hj, hj2⟩ := List.any_eq_true.1 h1
      simp only [Bool.and_eq_true, decide_eq_true_eq] at hj2
      obtain ⟨oj, hoj, e, he, hb, hon⟩ := Region.waitsFor_spec hj2.2
      have hjle : j ≤ t := by have := List.mem_range.1 hj; omega
      by_cases hjt : j = t
      · subst hjt
        have : oj = ot := Option.some.inj (hoj.symm.trans hot)
        subst this
        have h2 := hall e he hb
        rw [hon, getD_both hun] at h2
        cases h2
      · cases hl : listed.getD j false with
        | true =>
          have h2 := inv.closed j oj hoj hl e he hb
          rw [hon, getD_both hun] at h2
          cases h2
        | false =>
          have hjs : j < listed.size := by rw [inv.size]; omega
          exact ih (t - j) (by omega) j rfl (by omega) (getD_in hjs hl) t (Nat.le_refl _) hr
    · have h1 := List.all_eq_true.1 hc t (List.mem_range.2 htlt)
      simp only [Bool.or_eq_true, decide_eq_true_eq] at h1
      rcases h1 with h1 | h1
      · omega
      · obtain ⟨j, hj, hj2⟩ := List.any_eq_true.1 h1
        simp only [Bool.and_eq_true, decide_eq_true_eq] at hj2
        obtain ⟨o', ho', e, he, hb, hon⟩ := Region.waitsFor_spec hj2.2
        have : o' = ot := Option.some.inj (ho'.symm.trans hot)
        subst this
        have h2 := hall e he hb
        rw [hon, getD_both (inv.tail j hj2.1 (by have := List.mem_range.1 hj; omega))] at h2
        cases h2
def growTB (l : List Oper) (n : Nat) : Bool :=
  Region.noSelect l.toArray && decide (n ≤ l.length) && (decide (n = l.length) || Region.sinkB .any l.toArray n && treeTB l.toArray n) && looksB (l.take n) l.toArray && apartB (l.take n) && backB l.toArray
/-- The first n of m are done. -/
def listedN (m n : Nat) : Array Bool := ((List.range m).map fun i => decide (i < n)).toArray
end Go.Proofs.YthpallkphamobaaGreatDoor
