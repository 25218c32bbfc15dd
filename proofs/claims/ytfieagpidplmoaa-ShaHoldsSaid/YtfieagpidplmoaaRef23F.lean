/- The document's digest (layer 23): a block is mixed in. -/
import Derived.Test.YtfieagpidplmoaaRef23E
import Derived.Test.YtfieagpidplmoaaWordB
import Derived.Deep.Cut
namespace Go.Proofs.Ytfieagpidplmoaa
open Go.RowKit

def oneF (k w : BitVec 32) (s : Nat → BitVec 32) : BitVec 32 :=
  add32 (add32 (add32 (add32 (s 7) (xor32 (xor32 (rot32 (s 4) 6) (rot32 (s 4) 11)) (rot32 (s 4) 25))) (xor32 (and32 (s 4) (s 5)) (and32 (not32 (s 4)) (s 6)))) k) w
def twoF (s : Nat → BitVec 32) : BitVec 32 :=
  add32 (xor32 (xor32 (rot32 (s 0) 2) (rot32 (s 0) 13)) (rot32 (s 0) 22)) (xor32 (xor32 (and32 (s 0) (s 1)) (and32 (s 0) (s 2))) (and32 (s 1) (s 2)))
def stepF (k w : BitVec 32) (s : Nat → BitVec 32) : Nat → BitVec 32 := fun i => if i = 0 then add32 (oneF k w s) (twoF s) else if i = 4 then add32 (s 3) (oneF k w s) else s (i - 1)
def mixTo (hs b ks : Nat → BitVec 32) : Nat → Nat → BitVec 32
  | 0 => hs
  | t + 1 => stepF (ks t) (sched b t) (mixTo hs b ks t)
def mixF (hs b ks : Nat → BitVec 32) : Nat → BitVec 32 := fun i => add32 (mixTo hs b ks 64 i) (hs i)
theorem rowI_len (n : Nat) (f : Nat → BitVec 32) : (rowI n f).length = n := allL_len _ _
theorem rowI_get (n : Nat) (f : Nat → BitVec 32) (i : Nat) (hl : i < (rowI n f).length) : (rowI n f)[i] = iv32 (f i) := allL_get _ _ _ hl

theorem shift_set (s : Nat → BitVec 32) (m : Nat) : (rowI 8 (fun j => if m + 1 < j then s (j - 1) else s j)).set (m + 1) (iv32 (s m)) = rowI 8 (fun j => if m < j then s (j - 1) else s j) := by
  apply List.ext_getElem
  · simp [rowI_len]
  · intro i h1 h2
    rw [List.getElem_set]
    simp only [rowI_get]
    by_cases e : m + 1 = i
    · subst e; rw [if_pos rfl, if_pos (by omega)]; rfl
    · rw [if_neg e]
      by_cases c : m + 1 < i
      · rw [if_pos c, if_pos (by omega)]
      · rw [if_neg c, if_neg (by omega)]
theorem step_set (s : Nat → BitVec 32) (kt wt : BitVec 32) : ((rowI 8 (fun j => if 0 < j then s (j - 1) else s j)).set 4 (iv32 (add32 (s 3) (oneF kt wt s)))).set 0 (iv32 (add32 (oneF kt wt s) (twoF s))) = rowI 8 (stepF kt wt s) := rfl
theorem add_set (s hs : Nat → BitVec 32) (i : Nat) : (rowI 8 (fun j => if j < i then add32 (s j) (hs j) else s j)).set i (iv32 (add32 (s i) (hs i))) = rowI 8 (fun j => if j < i + 1 then add32 (s j) (hs j) else s j) := by
  apply List.ext_getElem
  · simp [rowI_len]
  · intro k h1 h2
    rw [List.getElem_set]
    simp only [rowI_get]
    by_cases e : i = k
    · subst e; rw [if_pos rfl, if_pos (by omega)]
    · rw [if_neg e]
      by_cases c : k < i
      · rw [if_pos c, if_pos (by omega)]
      · rw [if_neg c, if_neg (by omega)]
theorem turnedZ (a : BitVec 32) (n : Int) (w : World) (h1 : 0 < n) (h2 : n < 32) :
    Calls Try.prog 28 #[.int .u32 (iv32 a), .int .i64 n] w fun e w' => e = .returned (.int .u32 (iv32 (rot32 a n.toNat))) ∧ w' = w := by
  have := turnedS a n.toNat w (by omega) (by omega)
  rwa [Int.toNat_of_nonneg (by omega)] at this
theorem quiet_same2 {P : Program} {f : FuncId} {args : Array Value} {w : World} {m n : Nat} {v : Value}
    (h : Calls P f args (w.drewN (m + n)) fun e w' => e = .returned v ∧ w' = w.drewN (m + n)) : Calls P f args (w.drewN (m + n)) fun e w'' => e = .returned v ∧ ∃ k, w'' = w.drewN (m + k) :=
  h.mono fun _ _ ⟨he, hm⟩ => ⟨he, n, hm⟩
theorem wp_world {P : Program} {c : Code} {Q : Exit → Act → World → Prop} {a : Act} {w w' : World} (h : w = w') (h2 : c.wp P Q a w') : c.wp P Q a w := h ▸ h2

set_option maxRecDepth 100000 in
set_option maxHeartbeats 1000000 in
theorem refMix_any (hs b ks : Nat → BitVec 32) (w : World) :
    Calls Try.prog 12 #[arrV .u32 (rowI 8 hs), arrV .u32 (rowI 16 b), arrV .u32 (rowI 64 ks)] w fun e w' => e = .returned (arrV .u32 (rowI 8 (mixF hs b ks))) ∧ Below w.heap.size w w' := by
  unfold arrV
  obtain ⟨lh, hlh⟩ : ∃ l, l = rowI 8 hs := ⟨_, rfl⟩
  obtain ⟨lb, hlb⟩ : ∃ l, l = rowI 16 b := ⟨_, rfl⟩
  obtain ⟨lk, hlk⟩ : ∃ l, l = rowI 64 ks := ⟨_, rfl⟩
  rw [← hlh, ← hlb, ← hlk]
  have nh : lh.length = 8 := by rw [hlh, rowI_len]
  have nb : lb.length = 16 := by rw [hlb, rowI_len]
  have nk : lk.length = 64 := by rw [hlk, rowI_len]
  replace hlh := Lib.hid hlh
  replace hlb := Lib.hid hlb
  replace hlk := Lib.hid hlk
  replace nh := Lib.hid nh
  replace nb := Lib.hid nb
  replace nk := Lib.hid nk
  go_enter Try.func12, Try.ntmps12
  obtain ⟨w1, hw1⟩ : ∃ w1, ((((w.alloc (Obj.cells (lh.map (Value.int .u32)).toArray 29)).alloc (Obj.cells (lb.map (Value.int .u32)).toArray 30)).alloc (Obj.cells (lk.map (Value.int .u32)).toArray 31)).alloc (Obj.cells ((List.replicate 8 0).map (Value.int .u32)).toArray 29)) = w1 := ⟨_, rfl⟩
  have hH : Blk .u32 w1 w.heap.size 29 lh := by rw [← hw1]; exact (((Blk.new w _ lh).alloc _).alloc _).alloc _
  have hBk : Blk .u32 w1 (w.heap.size + 1) 30 lb := by rw [← hw1]; exact ((Blk.new' _ _ _ lb (by simp)).alloc _).alloc _
  have hK : Blk .u32 w1 (w.heap.size + 1 + 1) 31 lk := by rw [← hw1]; exact (Blk.new' _ _ _ lk (by simp)).alloc _
  have hR : Blk .u32 w1 (w.heap.size + 1 + 1 + 1) 29 (List.replicate 8 0) := by rw [← hw1]; exact Blk.new' _ _ _ _ (by simp)
  have hb : Below w.heap.size w w1 := by rw [← hw1]; exact xalloc (xalloc (xalloc (xalloc (xrefl _) _) _) _) _
  replace hw1 := Lib.hid hw1
  go_upto_region 1 with fail
  refine wp_world (w' := w1) hw1.out ?_
  clear hw1
  go_wp2_with (first
    | (refine wpList_load_blk rfl 30 _ rfl (w.heap.size + 1) rfl .u32 30 lb _ _ hBk Try.underlying30 (by rw [nb.out]; kernel_rfl) ?_)
    | (go_at_call 27; rw [hlb.out]; refine (refWords_any b _).mono ?_; rintro e w2 ⟨rfl, hb2⟩; rw [← hlb.out]; have hz2 := Blk.new (q := .u32) w2 31 (List.replicate 64 0))
    | (refine wpList_store_blk rfl 31 _ _ rfl w2.heap.size rfl .u32 31 (List.replicate 64 0) (rowI 64 (sched b)) hz2 rfl (by rw [rowI_len, List.length_replicate]) (by rw [rowI_len]; kernel_rfl) ?_; intro w3 h3 ho3; clear hz2; have hz3 := Blk.new (q := .u32) w3 29 (List.replicate 8 0); have hH3 := (((hH.below hb2).alloc (Obj.cells ((List.replicate 64 0).map (Value.int .u32)).toArray 31)).only ho3 (by have := (hH.below hb2).lt; omega)).alloc (Obj.cells ((List.replicate 8 0).map (Value.int .u32)).toArray 29))
    | (refine wpList_load_blk rfl 29 _ rfl w.heap.size rfl .u32 29 lh _ _ (((hH.below hb2).alloc (Obj.cells ((List.replicate 64 0).map (Value.int .u32)).toArray 31)).only ho3 (by have := (hH.below hb2).lt; omega)) Try.underlying29 (by rw [nh.out]; kernel_rfl) ?_)
    | (refine wpList_store_blk rfl 29 _ _ rfl w3.heap.size rfl .u32 29 (List.replicate 8 0) lh hz3 rfl (by rw [nh.out, List.length_replicate]) (by rw [nh.out]; kernel_rfl) ?_; intro w4 h4 ho4; clear hz3))
  have s1 := hb2.size
  have s2 := ho3.size
  have s3 := ho4.size
  rw [World.size_alloc] at s2 s3
  have hlift : ∀ (q : IntKind) (bk : Nat) (T : TypeId) (l : List Int), Blk q w1 bk T l → Blk q w4 bk T l := fun q bk T l h => by
    have hl := h.lt
    exact ((((h.below hb2).alloc _).only ho3 (by omega)).alloc _).only ho4 (by omega)
  have hW := (h3.alloc (Obj.cells ((List.replicate 8 0).map (Value.int .u32)).toArray 29)).only ho4 (by omega)
  have hH4 := hlift _ _ _ _ hH
  have hK4 := hlift _ _ _ _ hK
  have hR4 := hlift _ _ _ _ hR
  have bl1 := hH.lt
  have bl2 := hK.lt
  have bl3 := hR.lt
  have hb4 : Below w.heap.size w w4 := by
    have k1 := hb.trans (hb2.mono hb.size)
    have k2 := ho3.below (xalloc k1 _) (by rw [World.size_alloc]; have := k1.size; omega) (by rintro i rfl; exact k1.size)
    have k3 := k2.size
    exact ho4.below (xalloc k2 _) (by rw [World.size_alloc]; omega) (by rintro i rfl; exact k3)
  clear hlift hH hK hR hBk hb hb2 ho3 ho4 h3 hH3
  have hwp : w.heap.size + 1 + 1 + 1 < w2.heap.size := by omega
  have hpx : w2.heap.size < w3.heap.size := by omega
  clear bl1 bl2 bl3 s1 s2 s3
  generalize w2.heap.size = p at *
  generalize w3.heap.size = xb at *
  rw [hlh.out] at h4 hH4
  rw [hlk.out] at hK4
  go_loopw [9] (fun tv wx => ∃ t : Nat, t ≤ 64 ∧ tv = .int .i64 t ∧ Blk .u32 wx w.heap.size 29 (rowI 8 hs) ∧ Blk .u32 wx (w.heap.size + 1 + 1) 31 (rowI 64 ks) ∧ Blk .u32 wx (w.heap.size + 1 + 1 + 1) 29 (List.replicate 8 0) ∧ Blk .u32 wx p 31 (rowI 64 (sched b)) ∧ Blk .u32 wx xb 29 (rowI 8 (mixTo hs b ks t)) ∧ Below w.heap.size w wx) (fun tv _ => 64 - (intOf tv).toNat)
  case atStart => exact ⟨0, by omega, rfl, hH4, hK4, hR4, hW, h4, hb4⟩
  case round =>
    clear hH4 hK4 hR4 hW h4 hb4
    obtain ⟨t, ht, rfl, hH, hK, hR, hW, hX, hb⟩ := hrel
    by_cases hlt : t < 64
    · have hlt2 : (t : Int) < 64 := by omega
      have hnext : Hid (mixTo hs b ks (t + 1) = stepF (ks t) (sched b t) (mixTo hs b ks t)) := Lib.hid rfl
      have cK := hK.cell t (by rw [rowI_len]; exact hlt)
      have cW := hW.cell t (by rw [rowI_len]; exact hlt)
      rw [rowI_get] at cK cW
      generalize mixTo hs b ks t = s at *
      generalize ks t = kt at *
      generalize sched b t = wt at *
      have hx : ∀ i, i < 8 → wr.cell? ⟨xb, i, none⟩ = some (.int .u32 (iv32 (s i))) := fun i hi => by
        rw [hX.cell i (by rw [rowI_len]; exact hi), rowI_get]
      have x0 := hx 0 (by decide)
      have x1 := hx 1 (by decide)
      have x2 := hx 2 (by decide)
      have x4 := hx 4 (by decide)
      have x5 := hx 5 (by decide)
      have x6 := hx 6 (by decide)
      have x7 := hx 7 (by decide)
      clear hx
      go_wp2_with fail
      go_quiet (fail)
      revert nq; intro q1
      go_wp2_with fail
      go_quiet ((go_at_call 28; exact quiet_same2 (turnedZ _ _ _ (by decide) (by decide))))
      revert nq; intro q2
      go_wp2_with fail
      go_quiet ((go_at_call 28; exact quiet_same2 (turnedZ _ _ _ (by decide) (by decide))))
      revert nq; intro q3
      go_wp2_with fail
      obtain ⟨one, h1⟩ : ∃ o, oneF kt wt s = o := ⟨_, rfl⟩
      obtain ⟨two, h2⟩ : ∃ o, twoF s = o := ⟨_, rfl⟩
      have h1' := h1
      have h2' := h2
      unfold oneF at h1'
      unfold twoF at h2'
      rw [h1', h2']
      replace h1 := Lib.hid h1
      replace h2 := Lib.hid h2
      clear h1' h2' x0 x1 x2 x4 x5 x6 x7 cK cW
      have hX2 := ((hX.drewN q1).drewN q2).drewN q3
      have hH2 := ((hH.drewN q1).drewN q2).drewN q3
      have hK2 := ((hK.drewN q1).drewN q2).drewN q3
      have hR2 := ((hR.drewN q1).drewN q2).drewN q3
      have hW2 := ((hW.drewN q1).drewN q2).drewN q3
      have hb2 := xdrewN (xdrewN (xdrewN hb q1) q2) q3
      clear hX hH hK hR hW hb
      generalize ((wr.drewN q1).drewN q2).drewN q3 = w6 at *
      go_loopw [14] (fun iv wx => ∃ m : Nat, m ≤ 7 ∧ iv = .int .i64 m ∧ Blk .u32 wx w.heap.size 29 (rowI 8 hs) ∧ Blk .u32 wx (w.heap.size + 1 + 1) 31 (rowI 64 ks) ∧ Blk .u32 wx (w.heap.size + 1 + 1 + 1) 29 (List.replicate 8 0) ∧ Blk .u32 wx p 31 (rowI 64 (sched b)) ∧ Blk .u32 wx xb 29 (rowI 8 (fun j => if m < j then s (j - 1) else s j)) ∧ Below w.heap.size w wx) (fun iv _ => (intOf iv).toNat)
      case atStart => exact ⟨7, by omega, rfl, hH2, hK2, hR2, hW2, by rw [show rowI 8 (fun j => if 7 < j then s (j - 1) else s j) = rowI 8 s from allL_congr fun i hi => by show iv32 (if 7 < i then s (i - 1) else s i) = _; rw [if_neg (by omega)]]; exact hX2, hb2⟩
      case round =>
        clear hX2 hH2 hK2 hR2 hW2 hb2
        obtain ⟨m, hm, rfl, hH, hK, hR, hW, hX, hb⟩ := hrel
        rcases m with _ | m
        · have c4 := hX.cell 4 (by rw [rowI_len]; decide)
          rw [rowI_get] at c4
          replace c4 : wr.cell? ⟨xb, 4, none⟩ = some (.int .u32 (iv32 (s 3))) := by rw [c4]; rfl
          have c0 := hX.cell 0 (by rw [rowI_len]; decide)
          have f4 := hX.frozen 4
          have f0 := hX.frozen 0
          go_wp2
          have hset := (hX.set 4 (iv32 (add32 (s 3) one))).set 0 (iv32 (add32 one two))
          rw [← h1.out, ← h2.out, step_set s kt wt, ← hnext.out] at hset
          rw [h1.out, h2.out] at hset
          exact ⟨⟨t + 1, by omega, rfl, (hH.oth _ (by omega)).oth _ (by omega), (hK.oth _ (by omega)).oth _ (by omega), (hR.oth _ (by omega)).oth _ (by omega), (hW.oth _ (by omega)).oth _ (by omega), hset, xsetb (xsetb hb (by omega) _) (by omega) _⟩, by simp [intOf]; omega⟩
        · have c1 := hX.cell m (by rw [rowI_len]; omega)
          rw [rowI_get] at c1
          have c1' : wr.cell? ⟨xb, m, none⟩ = some (.int .u32 (iv32 (s m))) := by rw [c1]; congr 2; rw [if_neg (by omega)]
          clear c1
          have c2 := hX.cell (m + 1) (by rw [rowI_len]; omega)
          have hf := hX.frozen (m + 1)
          go_wp2
          refine ⟨⟨m, by omega, rfl, hH.oth _ (by omega), hK.oth _ (by omega), hR.oth _ (by omega), hW.oth _ (by omega), ?_, xsetb hb (by omega) _⟩, by simp [intOf]⟩
          have := hX.set (m + 1) (iv32 (s m))
          rw [shift_set s m] at this
          exact this
    · have ht64 : t = 64 := by omega
      subst ht64
      clear hlt
      generalize hs64 : mixTo hs b ks 64 = s at *
      replace hs64 := Lib.hid hs64
      go_wp2
      go_loopw [15] (fun iv wx => ∃ i : Nat, i ≤ 8 ∧ iv = .int .i64 i ∧ Blk .u32 wx w.heap.size 29 (rowI 8 hs) ∧ Blk .u32 wx (w.heap.size + 1 + 1 + 1) 29 (List.replicate 8 0) ∧ Blk .u32 wx xb 29 (rowI 8 (fun j => if j < i then add32 (s j) (hs j) else s j)) ∧ Below w.heap.size w wx) (fun iv _ => 8 - (intOf iv).toNat)
      case atStart => exact ⟨0, by omega, rfl, hH, hR, hX, hb⟩
      case round =>
        clear hH hK hR hW hX hb
        obtain ⟨i, hi, rfl, hH, hR, hX, hb⟩ := hrel
        by_cases hlt : i < 8
        · have hlt2 : (i : Int) < 8 := by omega
          have c1 := hX.cell i (by rw [rowI_len]; exact hlt)
          rw [rowI_get] at c1
          replace c1 : wr.cell? ⟨xb, i, none⟩ = some (.int .u32 (iv32 (s i))) := by rw [c1]; congr 2; rw [if_neg (by omega)]
          have c2 := hH.cell i (by rw [rowI_len]; exact hlt)
          rw [rowI_get] at c2
          have f1 := hX.frozen i
          go_wp2_with fail
          refine wp_region_still_tail 9 (by kernel_rfl) (by kernel_rfl) ?_
          simp only [List.take_succ_cons, List.take_zero, List.drop_succ_cons, List.drop_zero]
          generalize hw5 : ({ wr with drawn := wr.drawn + 1 } : World) = w5
          replace c1 : w5.cell? ⟨xb, i, none⟩ = some (.int .u32 (iv32 (s i))) := by rw [← hw5]; exact c1
          replace c2 : w5.cell? ⟨w.heap.size, i, none⟩ = some (.int .u32 (iv32 (hs i))) := by rw [← hw5]; exact c2
          replace f1 : w5.frozen? ⟨xb, i, none⟩ = false := by rw [← hw5]; exact f1
          replace hw5 := Lib.hid hw5
          repeat still_step
          refine wpStill_nil ?_
          go_wp2
          go_roundw
          case rel =>
            have e5 := hw5.out
            subst e5
            have hset := (hX.drew).set i (iv32 (add32 (s i) (hs i)))
            rw [add_set s hs i] at hset
            exact ⟨.int .i64 ((i : Int) + 1), _, _, _, _, _, _, _, _, _, _, _, _, _, ⟨i + 1, by omega, rfl, hH.drew.oth _ (by omega), hR.drew.oth _ (by omega), hset, xsetb (xdrew hb) (by omega) _⟩, rfl⟩
          case measure => simp [intOf]; omega
        · have hi8 : i = 8 := by omega
          subst hi8
          rw [show rowI 8 (fun j => if j < 8 then add32 (s j) (hs j) else s j) = rowI 8 (mixF hs b ks) from allL_congr fun i hi => by show iv32 (if i < 8 then add32 (s i) (hs i) else s i) = iv32 (add32 (mixTo hs b ks 64 i) (hs i)); rw [if_pos hi, hs64.out]] at hX
          clear hlt
          go_wp2_with (first
            | (refine wpList_load_blk rfl 29 _ rfl xb rfl .u32 29 (rowI 8 (mixF hs b ks)) _ _ hX Try.underlying29 (by rw [rowI_len]; kernel_rfl) ?_)
            | (refine wpList_store_blk rfl 29 _ _ rfl (w.heap.size + 1 + 1 + 1) rfl .u32 29 (List.replicate 8 0) (rowI 8 (mixF hs b ks)) hR rfl (by rw [rowI_len, List.length_replicate]) (by rw [rowI_len]; kernel_rfl) ?_; intro w7 h7 ho7))
          refine ret_blk rfl (w.heap.size + 1 + 1 + 1) .u32 29 (rowI 8 (mixF hs b ks)) _ _ rfl h7 Try.underlying29 (by rw [rowI_len]; kernel_rfl) rfl ⟨rfl, ?_⟩
          exact ho7.below hb hb.size (by rintro i rfl; omega)
end Go.Proofs.Ytfieagpidplmoaa
