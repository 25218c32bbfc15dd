/- The statements on the digest (layer 24): the chapter's rows. -/
import Derived.Test.YtfafancacfjodaaRipP
import Derived.Test.YtfafancacfjodaaRipNum
import Derived.Lib.SlBytesConst
namespace Go.Proofs.Ytfafancacfjodaa
open Go.RowKit

theorem text_any (zs : List Int) (w : World) (hl : zs.length = 20) (hz : ∀ z ∈ zs, 0 ≤ z ∧ z < 256) :
    Calls Try.prog 19 #[.agg (zs.map (Value.int .u8)).toArray] w fun e w' => e = .returned (txtV ([48, 120] ++ hexL zs)) ∧ Below w.heap.size w w' := by
  have hB := (Blk.new (q := .u8) w 24 zs).row 0
  rw [List.drop_zero] at hB
  have hx := hex_any zs (some ⟨w.heap.size, 0, none⟩) 20 _ hB hz (by omega)
  rw [hl] at hx
  have hb := xalloc (xrefl w) (Obj.cells (zs.map (Value.int .u8)).toArray 24)
  generalize [48, 120] ++ hexL zs = T at hx ⊢
  replace hx := Lib.hid hx
  replace hl := Lib.hid hl
  replace hb := Lib.hid hb
  clear hB
  unfold txtV at hx ⊢
  go_enter Try.func19, Try.ntmps19
  go_wp2_with (go_at_call 33; refine hx.out.mono ?_; rintro e w2 ⟨rfl, hb2⟩)
  go_ret
  exact ⟨rfl, xtrans hb.out hb2⟩
theorem takeL_get (s : Bool) (k : Nat) (h : k < 80) (hl : k < (takeL s).length) : (takeL s)[k] = (takeN s k : Int) := allL_get _ _ _ _
set_option maxRecDepth 100000 in
set_option maxHeartbeats 2000000 in
theorem works_any (w : World) : Calls Try.prog 7 #[] w fun e w' => e = .returned (.bool true) ∧ Below w.heap.size w w' := by
  have hs0 := fun W => sum_any [] (.slice none 0 0) [] W rfl (by simp) (by simp) (.inl ⟨rfl, rfl⟩)
  rw [sum0] at hs0
  have hs1 := fun W q a c (h : RowsAt W q 0 [(a, c, [97, 98, 99])]) => sum_any abcB (.slice (some ⟨q, 0, none⟩) 1 1) [(a, c, [97, 98, 99])] W (by rw [abc_iv]; rfl) (by simp) (by decide) (.inr ⟨q, 0, rfl, h⟩)
  rw [sum1] at hs1
  have hx0 := fun W => text_any dig0 W rfl dig0_bd
  have hx1 := fun W => text_any dig1 W rfl dig1_bd
  rw [text0] at hx0
  rw [text1] at hx1
  have hta := fun W => takes_any false W
  have htb := fun W => takes_any true W
  unfold arrV at hs0 hs1 hta htb
  generalize dig0 = d0 at hs0 hx0
  generalize dig1 = d1 at hs1 hx1
  obtain ⟨TA, hTA⟩ : ∃ l, l = takeL false := ⟨_, rfl⟩
  obtain ⟨TB, hTB⟩ : ∃ l, l = takeL true := ⟨_, rfl⟩
  rw [← hTA] at hta
  rw [← hTB] at htb
  have nA : TA.length = 80 := by rw [hTA]; exact allL_len _ _
  have nB : TB.length = 80 := by rw [hTB]; exact allL_len _ _
  have gA : ∀ k (h : k < TA.length), TA[k] = (takeN false k : Int) := fun k h => by subst hTA; exact allL_get _ _ _ _
  have gB : ∀ k (h : k < TB.length), TB[k] = (takeN true k : Int) := fun k h => by subst hTB; exact allL_get _ _ _ _
  have cA : ∀ (W : World) p k v, Blk .i64 W p 31 TA → k < 80 → takeN false k = v → W.cell? ⟨p, k, none⟩ = some (.int .i64 v) := fun W p k v h hk e => by
    rw [h.cell k (by rw [nA]; exact hk), gA, e]
  have cB : ∀ (W : World) p k v, Blk .i64 W p 31 TB → k < 80 → takeN true k = v → W.cell? ⟨p, k, none⟩ = some (.int .i64 v) := fun W p k v h hk e => by
    rw [h.cell k (by rw [nB]; exact hk), gB, e]
  have iA : (Try.prog.info? 31).map (·.size) = some TA.length := by rw [nA]; kernel_rfl
  have iB : (Try.prog.info? 31).map (·.size) = some TB.length := by rw [nB]; kernel_rfl
  have hzv := zero80
  have hzl : (List.replicate 80 (0 : Int)).length = 80 := List.length_replicate
  generalize List.replicate 80 (0 : Int) = Z at hzv hzl
  have hz := fun (W : World) => (Blk.new (q := .i64) W 31 Z).alloc (Obj.cells (Z.map (Value.int .i64)).toArray 31)
  have hzz : ∀ W : World, Blk .i64 ((W.alloc (Obj.cells (Z.map (Value.int .i64)).toArray 31)).alloc (Obj.cells (Z.map (Value.int .i64)).toArray 31)) (W.heap.size + 1) 31 Z := fun W => Blk.new' _ _ _ _ (by simp)
  have hl1 : Z.length = TA.length := by rw [hzl, nA]
  have hl2 : Z.length = TB.length := by rw [hzl, nB]
  replace hs0 := Lib.hid hs0
  replace hs1 := Lib.hid hs1
  replace hx0 := Lib.hid hx0
  replace hx1 := Lib.hid hx1
  replace hta := Lib.hid hta
  replace htb := Lib.hid htb
  replace hTA := Lib.hid hTA
  replace hTB := Lib.hid hTB
  replace cA := Lib.hid cA
  replace cB := Lib.hid cB
  replace iA := Lib.hid iA
  replace iB := Lib.hid iB
  replace hz := Lib.hid hz
  replace hzz := Lib.hid hzz
  replace hl1 := Lib.hid hl1
  replace hl2 := Lib.hid hl2
  clear gA gB nA nB hzl
  have kc := fun (w : World) (C : Array Value) (n c : Nat) => Lib.run_convert_bytes_const (P := Try.prog) w 22 5 C n c Try.underlying22 Try.underlying5
  have hrows : ∀ W : World, RowsAt ((W.alloc (.cells #[.int .u8 97, .int .u8 98, .int .u8 99] 5 (3, 4))).alloc (.cells #[.slice (some ⟨W.heap.size, 0, none⟩) 3 3] 22)) (W.heap.size + 1) 0 [(some ⟨W.heap.size, 0, none⟩, 3, [97, 98, 99])] := by
    intro W i hi
    match i, hi with
    | 0, _ =>
      have hh : ((W.alloc (.cells #[.int .u8 97, .int .u8 98, .int .u8 99] 5 (3, 4))).alloc (.cells #[.slice (some ⟨W.heap.size, 0, none⟩) 3 3] 22)).heap[W.heap.size]? = some (.cells #[.int .u8 97, .int .u8 98, .int .u8 99] 5 (3, 4)) :=
        (Below.heap_alloc _ _ _ (by simp)).trans (World.alloc_heap_new W _)
      refine ⟨by simp [go_sem], fun j hj => ⟨_, _, rfl, ?_⟩, by simp⟩
      simp at hj
      match j, hj with
      | 0, _ => simp [World.cell?, hh]
      | 1, _ => simp [World.cell?, hh]
      | 2, _ => simp [World.cell?, hh]
  replace hrows := Lib.hid hrows
  go_enter Try.func7, Try.ntmps7
  go_wp2_with (first
    | (go_at_call 10; (with_reducible refine (hta.out _).mono ?_); rintro e w1 ⟨rfl, hb1⟩)
    | (go_at_call 10; refine (htb.out _).mono ?_; rintro e w2 ⟨rfl, hb2⟩)
    | (refine wpList_store_blk rfl 31 (.tmp 1) _ rfl w2.heap.size rfl .i64 31 Z TA (hz.out w2) rfl hl1.out.symm iA.out ?_; intro w3 h3 ho3; have hz3 := (hzz.out w2).only ho3 (by omega))
    | (refine wpList_store_blk rfl 31 (.tmp 2) _ rfl (w2.heap.size + 1) rfl .i64 31 Z TB hz3 rfl hl2.out.symm iB.out ?_; intro w4 h4 ho4; have h34 := Lib.hid (h3.only ho4 (by omega)); replace h4 := Lib.hid h4; have hb4 : Below w.heap.size w w4 := ho4.below (ho3.below (xalloc (xalloc (xtrans hb1 hb2) _) _) (by have g1 := hb1.size; have g2 := hb2.size; simp; omega) (by have g1 := hb1.size; have g2 := hb2.size; omega)) (by have g1 := hb1.size; have g2 := hb2.size; have g3 := ho3.size; simp at g3; omega) (by have g1 := hb1.size; have g2 := hb2.size; omega))
    | (go_at_call 9; (with_reducible refine (hs0.out _).mono ?_); rintro e w5 ⟨rfl, hb5⟩)
    | (go_at_call 19; (with_reducible refine (hx0.out _).mono ?_); rintro e w6 ⟨rfl, hb6⟩; unfold txtV txt0)
    | (go_at_call 9; refine (hs1.out _ _ _ _ (hrows.out w6)).mono ?_; rintro e w7 ⟨rfl, hb7⟩)
    | (go_at_call 19; (with_reducible refine (hx1.out _).mono ?_); rintro e w8 ⟨rfl, hb8⟩; unfold txtV txt1; have hb68 := Lib.hid (xtrans (xtrans (xalloc (xalloc (xrefl w6) _) _) hb7) hb8); have hAx := Lib.hid (((h34.out.below hb5).below hb6).below hb68.out); have hBx := Lib.hid (((h4.out.below hb5).below hb6).below hb68.out); have k1 := cA.out _ _ 16 7 hAx.out (by decide) (by decide); have k2 := cA.out _ _ 17 4 hAx.out (by decide) (by decide); have k3 := cB.out _ _ 0 5 hBx.out (by decide) (by decide); have k4 := cB.out _ _ 1 14 hBx.out (by decide) (by decide); have k5 := cB.out _ _ 16 6 hBx.out (by decide) (by decide)))
  go_ret
  exact ⟨rfl, xtrans (xtrans (xtrans hb4 hb5) hb6) hb68.out⟩
end Go.Proofs.Ytfafancacfjodaa
