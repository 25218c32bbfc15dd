/- The program's digest (layer 24): the blocks of bytes are made. -/
import Derived.Test.YtfafancacfjodaaRipM
import Derived.Test.YtfafancacfjodaaClone
import Derived.Test.YtfafancacfjodaaZeros
import Derived.OneCell
namespace Go.Proofs.Ytfafancacfjodaa
open Go.RowKit

/-- What Blocks hands back. -/
def MadeB (pl : List (BitVec 8)) (w : World) (e : Ending) (w' : World) : Prop :=
  ∃ bx pa pc, e = .returned (.func (.func 31) #[] #[.pointer (some ⟨bx, 0, none⟩)]) ∧ w'.cell? ⟨bx, 0, none⟩ = some (.slice pa pl.length pc) ∧ RowAt .u8 w' pa (pl.map iv8) ∧ (∀ x, pa = some x → w.heap.size ≤ x.block) ∧ w.heap.size ≤ bx ∧ pl.length ≤ pc ∧ pc ≤ 9223372036854775807 ∧ Below w.heap.size w w'
/-- A slice that holds integers. -/
def ownT (q : IntKind) (zs : List Int) : Told := ⟨fun v => ∃ a c, v = .slice a zs.length c ∧ (a = none → c = 0), fun v W => ∀ a c, v = .slice a zs.length c → RowAt q W a zs, ⟨.slice none zs.length 0, none, 0, rfl, fun _ => rfl⟩, fun v W W' h hb a c e => (h a c e).below hb⟩

set_option maxRecDepth 100000 in
set_option maxHeartbeats 1000000 in
theorem blocks_any (bs : List (BitVec 8)) (a : Option Addr) (c : Nat) (w : World) (hrow : RowAt .u8 w a (bs.map iv8)) (hn : a = none → c = 0) (hlen : bs.length < 1000000) :
    Calls Try.prog 15 #[.slice a bs.length c] w (MadeB (padL bs) w) := by
  obtain ⟨i0, hi, hz0, hz1, hz2⟩ := info_parts Try.infoU8
  obtain ⟨zs, hzs⟩ : ∃ zs, zs = bs.map iv8 := ⟨_, rfl⟩
  rw [← hzs] at hrow
  have hzl : bs.length = zs.length := by rw [hzs]; simp
  obtain ⟨zn, hzn⟩ : ∃ zn, zn = zs.length := ⟨_, rfl⟩
  obtain ⟨w0, hw0⟩ : ∃ w0, w.alloc (.cells #[.slice a zn c] 22) = w0 := ⟨_, rfl⟩
  have hb0 : Below w.heap.size w w0 := by rw [← hw0]; exact xalloc (xrefl w) _
  have s0 : w0.heap.size = w.heap.size + 1 := by rw [← hw0]; simp
  have hbx0 : w0.heap[w.heap.size]? = some (.cells #[.slice a zn c] 22) := by rw [← hw0]; exact World.alloc_heap_new w _
  have hclone := cloneB_any a c zs w0 (by omega) (hrow.below hb0) hn
  rw [← hzn] at hzl hclone
  rw [hzl]
  have hlz : zn < 1000000 := by omega
  replace hzl := Lib.hid hzl
  replace hzs := Lib.hid hzs
  replace hclone := Lib.hid hclone
  replace hzn := Lib.hid hzn
  replace hbx0 := Lib.hid hbx0
  replace hw0 := Lib.hid hw0
  replace hb0 := Lib.hid hb0
  clear hrow
  obtain ⟨z, hz⟩ : ∃ z, z = padN zn := ⟨_, rfl⟩
  have hzb : z < 64 := by rw [hz]; exact padN_lt zn
  have hzz : (120 - ((zn : Int) + 1)) % 64 = (z : Int) := by rw [hz]; unfold padN; omega
  have hzz2 : (120 - ((zn : Int) + 1) % 64) % 64 = (z : Int) := by rw [hz]; unfold padN; omega
  replace hz := Lib.hid hz
  replace s0 := Lib.hid s0
  have hy1 : zn + 1 + z ≤ maxLen := by unfold maxLen; omega
  have hy2 : (zn + 1 + z) * 1 ≤ 140737488355328 := by omega
  go_enter Try.func15, Try.ntmps15
  go_upto_region 1 with fail
  refine wp_world (w' := w0) hw0.out ?_
  have hcb0 := boxed_cell hbx0.out
  go_upto_region 3 with (first
    | (go_at_call 29; refine hclone.out.mono ?_; rintro e w1 ⟨v1, rfl, ho1, hb1⟩; have hx1 : zn + [(128 : Int)].length ≤ maxLen := (by unfold maxLen; simp; omega); have hx2 : (zn + [(128 : Int)].length) * 1 ≤ 140737488355328 := (by simp; omega); have hx3 : w0.heap.size ≤ (w1.alloc (.cells #[.int .u8 128] 5)).heap.size := (by rw [World.size_alloc]; have := hb1.size; omega))
    | (at_builtin; refine wpList_append_row (w1.alloc (.cells #[.int .u8 128] 5)) rfl _ _ 22 rfl w0.heap.size 5 i0 (.int .u8 0) 1 Try.underlying22 hi hz0 hz1 hz2 rfl v1 zn _ rfl (ho1.alloc _) (some ⟨w1.heap.size, 0, none⟩) 1 .u8 [128] rfl (by simp) (rowAt_one w1 5 128) hx1 hx2 hx3 ?_; intro v2 w2 ho2 hg2; obtain ⟨a2, c2, rfl⟩ := own_slice ho2; simp only [List.length_cons, List.length_nil, Nat.zero_add] at ho2 ⊢; have hy3 : w0.heap.size ≤ (w2.alloc (.cells #[.slice a2 (zn + 1) c2] 22)).heap.size := (by have h1 := hg2.size; have h2 := hb1.size; rw [World.size_alloc] at h1 ⊢; omega))
    | (at_builtin; refine wpList_append_zeros_any (w2.alloc (.cells #[.slice a2 (zn + 1) c2] 22)) rfl _ _ 22 3 rfl w0.heap.size 5 i0 (.int .u8 0) 1 .i64 .i64 Try.underlying22 Try.underlying3 hi hz0 hz1 hz2 rfl rfl (.slice a2 (zn + 1) c2) (zn + 1) _ rfl (ho2.alloc _) z (congrArg (Value.int .i64) hzz2) hy1 hy2 hy3 ?_; intro v3 w3 ho3 hg3; obtain ⟨a3, c3, rfl⟩ := own_slice ho3; have hbx : w3.heap[w2.heap.size]? = some (.cells #[.slice a2 (zn + 1) c2] 22) := (hg3.block _ (by rw [World.size_alloc]; omega) (fun e => boxed_ne (ho2.alloc (.cells #[.slice a2 (zn + 1) c2] 22)) (World.alloc_heap_new w2 _) (by decide) e.symm)).trans (World.alloc_heap_new w2 _); have hbc := boxed_cell hbx; have hbf := boxed_free hbx))
  clear hcb0
  have hb2 : Below w0.heap.size w0 w2 := (xalloc hb1 _).grown hg2 hx3 (fun k hk => (ho1.lt k hk).1)
  have hb3 : Below w0.heap.size w0 w3 := (xalloc hb2 _).grown hg3 hy3 (fun k hk => (ho2.lt k hk).1)
  have hbl := hb2.size
  have hb4 : Below w0.heap.size w0 (w3.setCell ⟨w2.heap.size, 0, none⟩ (.slice a3 (zn + 1 + z) c3)) := xsetb hb3 hbl _
  have hbx4 := boxed_set (u := .slice a3 (zn + 1 + z) c3) hbx
  have ho4 := ownsRow_setCell_other ho3 (a := ⟨w2.heap.size, 0, none⟩) (boxed_ne ho3 hbx (by decide)) (.slice a3 (zn + 1 + z) c3)
  obtain ⟨LB, hLB⟩ : ∃ l, l = (allL 8 fun k => iv8 (BitVec.ofNat 8 (8 * zn / 256 ^ k))) := ⟨_, rfl⟩
  obtain ⟨PT, hPT⟩ : ∃ l, l = (padTo bs z).map iv8 := ⟨_, rfl⟩
  have nL : LB.length = 8 := by rw [hLB]; exact allL_len _ _
  have nP : PT.length = zn + 1 + z := by rw [hPT, List.length_map, padTo_len, hzl.out]
  have hpad : PT ++ LB = (padL bs).map iv8 := by
    rw [hPT, hLB, ← hzl.out]
    unfold padL padTo
    have hma : ∀ A B : List (BitVec 8), (A ++ B).map iv8 = A.map iv8 ++ B.map iv8 := fun A B => List.map_append
    rw [hma _ (lenB bs.length), hzl.out, ← hz.out]
    congr 1
  have hoK : (w3.setCell ⟨w2.heap.size, 0, none⟩ (.slice a3 (zn + 1 + z) c3)).ownsRow w0.heap.size 5 1 (.slice a3 (zn + 1 + z) c3) (zn + 1 + z) (PT.map (Value.int .u8)) := by
    have e2 : PT.map (Value.int .u8) = zs.map (Value.int .u8) ++ [128].map (Value.int .u8) ++ List.replicate z (Value.int .u8 0) := by
      rw [hPT, hzs.out]
      simp [padTo]
      exact ⟨rfl, .inr rfl⟩
    rw [e2]; exact ho4
  generalize w3.setCell ⟨w2.heap.size, 0, none⟩ (.slice a3 (zn + 1 + z) c3) = w4 at *
  have hcp : w4.cell? ⟨w.heap.size, 0, none⟩ = some (.slice a zn c) := boxed_cell (T := 22) ((hb4.block _ (by rw [s0.out]; omega)).trans hbx0.out)
  have hmd : ∀ W, Below w4.heap.size w4 W → Calls Try.prog 21 #[.int .i64 (8 : Nat), .func (.func 30) #[] #[.pointer (some ⟨w.heap.size, 0, none⟩)]] W fun e w' => ∃ v, e = .returned v ∧ w'.ownsRow W.heap.size 5 1 v 8 (LB.map (Value.int .u8)) ∧ Below W.heap.size W w' := fun W hbW => by
    rw [hLB]
    exact madeLen_any w.heap.size 8 (fun k => iv8 (BitVec.ofNat 8 (8 * zn / 256 ^ k))) W (by decide) (fun k hk W' hb' => len1_any w.heap.size zn c k a W' (cbel hb' (cbel hbW hcp)) hlz hk)
  obtain ⟨bx, hbxe⟩ : ∃ bx, bx = w2.heap.size := ⟨_, rfl⟩
  rw [← hbxe] at hbx4 hbl ⊢
  have cv := boxed_cell hbx4
  replace hLB := Lib.hid hLB
  replace hPT := Lib.hid hPT
  replace nL := Lib.hid nL
  replace nP := Lib.hid nP
  replace hpad := Lib.hid hpad
  replace hoK := Lib.hid hoK
  replace hmd := Lib.hid hmd
  replace cv := Lib.hid cv
  replace hbx4 := Lib.hid hbx4
  replace hb4 := Lib.hid hb4
  clear ho1 ho2 ho3 ho4 hg2 hg3 hb1 hb2 hb3 hbx hbc hbf hbxe hzz hzz2 hx1 hx2 hx3 hy1 hy2 hy3 hcp
  refine wp_region_growL 3 [fixd (.slice a3 (zn + 1 + z) c3), fixd (.func (.func 30) #[] #[.pointer (some ⟨w.heap.size, 0, none⟩)]), ownT .u8 LB] (by kernel_rfl) (by kernel_rfl) ?_
  simp only [List.take_succ_cons, List.take_zero, List.drop_succ_cons, List.drop_zero]
  try simp only [Act.put, List.setIfInBounds_toArray, List.set_cons_succ, List.set_cons_zero, List.nil_append, List.cons_append]
  refine wpGrowV_fix _ rfl rfl (fun W hb _ => by have c := cbel hb cv.out; go_simp; first | exact xrefl W | exact ⟨rfl, xrefl W⟩) ?_
  try simp only [Act.put, List.setIfInBounds_toArray, List.set_cons_succ, List.set_cons_zero, List.nil_append, List.cons_append]
  refine wpGrowV_fix _ rfl rfl (fun W hb _ => by go_simp; first | exact xrefl W | exact ⟨rfl, xrefl W⟩) ?_
  try simp only [Act.put, List.setIfInBounds_toArray, List.set_cons_succ, List.set_cons_zero, List.nil_append, List.cons_append]
  refine wpGrowV_any (ownT .u8 LB) rfl rfl (fun W hb _ => ?_) (fun v hv => ?_)
  · go_simp
    go_at_call 21
    refine (hmd.out W hb).mono ?_
    rintro e w' ⟨v, rfl, ho, hb'⟩
    obtain ⟨ax, cx, rfl, hrx, hnx, -, -⟩ := rowAt_own ho
    exact ⟨_, rfl, ⟨⟨ax, cx, rfl, hnx⟩, fun a' c' e => by cases e; exact hrx⟩, hb'⟩
  obtain ⟨a5, c5, rfl, hn5⟩ := hv
  try simp only [Act.put, List.setIfInBounds_toArray, List.set_cons_succ, List.set_cons_zero, List.nil_append, List.cons_append]
  refine wpGrowV_nil fun W hbW hmem => ?_
  have hq1 : RowAt .u8 W a5 LB := hmem 2 (by decide) a5 c5 rfl
  have hownW := own_keep hoK.out hbW
  have hbxW : W.heap[bx]? = some (.cells #[.slice a3 (zn + 1 + z) c3] 22) := (hbW.block bx (Array.getElem?_eq_some_iff.1 hbx4.out).1).trans hbx4.out
  have hne := boxed_ne hownW hbxW (by decide)
  have hbW2 := xtrans hb4.out hbW
  have hszW : w0.heap.size ≤ W.heap.size := hbW2.size
  have hx1 : zn + 1 + z + LB.length ≤ maxLen := by unfold maxLen; rw [nL.out]; omega
  have hx2 : (zn + 1 + z + LB.length) * 1 ≤ 140737488355328 := by rw [nL.out]; omega
  clear hmem cv
  go_wp2_with (at_builtin; refine wpList_append_row W rfl _ _ 22 rfl w0.heap.size 5 i0 (.int .u8 0) 1 Try.underlying22 hi hz0 hz1 hz2 rfl (.slice a3 (zn + 1 + z) c3) (zn + 1 + z) _ rfl hownW a5 c5 .u8 LB rfl hn5 hq1 hx1 hx2 hszW ?_; intro v6 w6 ho6 hg6; obtain ⟨a6, c6, rfl⟩ := own_slice ho6; have hbx6 : w6.heap[bx]? = some (.cells #[.slice a3 (zn + 1 + z) c3] 22) := (hg6.block bx (Array.getElem?_eq_some_iff.1 hbxW).1 (fun e => hne e.symm)).trans hbxW; have hbc6 := boxed_cell hbx6; have hbf6 := boxed_free hbx6)
  have hb6 : Below w0.heap.size w0 w6 := hbW2.grown hg6 hszW (fun k hk => (hownW.lt k hk).1)
  have ho7 := ownsRow_setCell_other ho6 (a := ⟨bx, 0, none⟩) (boxed_ne ho6 hbx6 (by decide)) (.slice a6 (zn + 1 + z + LB.length) c6)
  have hbx7 := boxed_set (u := .slice a6 (zn + 1 + z + LB.length) c6) hbx6
  have hb7 := xsetb hb6 hbl (i := 0) (.slice a6 (zn + 1 + z + LB.length) c6)
  rw [← List.map_append, hpad.out] at ho7
  have hll : zn + 1 + z + LB.length = (padL bs).length := by
    have e := congrArg List.length hpad.out
    rw [List.length_append, nP.out, List.length_map] at e
    exact e
  have hcap : zn + 1 + z + LB.length ≤ c6 ∧ c6 ≤ 9223372036854775807 := by
    rcases ho7.2 with ⟨e1, -⟩ | ⟨g, cap, cur, e1, _, _, h1, h2, _⟩
    · injection e1 with _ e2 e3; omega
    · injection e1 with _ e2 e3; subst e3; exact ⟨h1, h2⟩
  clear hx1 hx2 ho6
  generalize zn + 1 + z + LB.length = N at *
  subst hll
  obtain ⟨a8, c8, e8, hr8, -, hge, -⟩ := rowAt_own ho7
  injection e8 with e9 _ e10
  subst e9 e10
  have hs0 := s0.out
  have hbc7 := Lib.hid (boxed_cell hbx7)
  clear hbc6 hbf6
  go_ret
  exact ⟨bx, a6, c6, rfl, hbc7.out, hr8, fun x hx => by have := hge x hx; omega, by omega, hcap.1, hcap.2, xtrans hb0.out (hb7.mono (Nat.le_refl _))⟩
end Go.Proofs.Ytfafancacfjodaa
