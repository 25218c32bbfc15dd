/- Texts of this claim, merged; no condition. -/
import Derived.Test.YthpallkphamobaaGreatDoorI31
import Derived.Test.YthpallkphamobaaGreatDoorI29
import Derived.Test.YthpallkphamobaaGreatDoorI28
import Derived.Test.YthpallkphamobaaGreatDoorI13
set_option linter.all false
namespace Go.Proofs.YthpallkphamobaaGreatDoor
open Go.RowKit Go.Shelf
attribute [local go_sem] Oper.semAt_some
attribute [local go_sem 20000] run_max_big run_min_small
/-- The number of rounds, in a box. -/
def NbT (k9 : Nat) (Pk : Prop) (v : Int) (S : Nat → Prop) (W : World) : Prop := Pk ∧ (∀ j, S j → j < W.heap.size) ∧ S k9 ∧ Box W k9 (.int .i64 v) 3
theorem NbT.fac {k9 : Nat} {Pk : Prop} {v : Int} {S : Nat → Prop} : Fac S (NbT k9 Pk v S) :=
  ⟨fun W W' ⟨h0, h1, h2, h3⟩ hz hs => ⟨h0, fun j hj => Nat.lt_of_lt_of_le (h1 j hj) hz, h2, (hs _ h2 (h1 _ h2)).trans h3⟩, fun W h => h.2.1⟩
theorem NbT.fac' {k9 : Nat} {R Pk : Prop} {v : Int} {S : Nat → Prop} : Fac S (fun W => R ∧ NbT k9 Pk v S W) :=
  ⟨fun W W' h hz hs => ⟨h.1, NbT.fac.on W W' h.2 hz hs⟩, fun W h => h.2.2.1⟩
/-- What the law's turns find in memory. -/
structure TwS (w : World) (p : PolN) (pa pb : Option Addr) (pc pd : Nat) (ls : List (List UInt8)) (x : Int) (k5 : Nat) (a5 : Option Addr) (c5 : Nat) (w4 W : World) : Prop where
  bP : BlkG W w.heap.size 27 [labV p.dflt, .slice pa p.clears.length pc, .slice pb p.rels.length pd]
  bm : Box W (w.heap.size + 1) (.int .i64 x) 3
  br : Box W (w.heap.size + 2) (.bool false) 4
  bp : Box W k5 (.slice a5 ls.length c5) 71
  hp : RowV W a5 (ls.map strL)
  h4 : Below w4.heap.size w4 W
  hb : Below w.heap.size w W
theorem TwS.below {w : World} {p : PolN} {pa pb : Option Addr} {pc pd : Nat} {ls : List (List UInt8)} {x : Int} {k5 : Nat} {a5 : Option Addr} {c5 : Nat} {w4 W W' : World} (h : TwS w p pa pb pc pd ls x k5 a5 c5 w4 W) (hb : Below W.heap.size W W') : TwS w p pa pb pc pd ls x k5 a5 c5 w4 W' :=
  ⟨h.bP.below hb, h.bm.below hb, h.br.below hb, h.bp.below hb, h.hp.below hb, xtrans h.h4 hb, xtrans h.hb hb⟩
theorem dS_1k (d : BitVec 64) : (dS d).length ≤ 1100 := by
  unfold dS lineD
  rw [Lib.join_length]
  have h1 := textL_len d
  simp [Lib.lens, wDefault]
  omega
theorem cS_1k (x : List Nat × BitVec 64) (h : Adr x.1) : (cS x).length ≤ 1100 := by
  unfold cS lineC
  rw [Lib.join_length]
  have h1 := textL_len x.2
  have h2 : (hexN x.1).length = 42 := by rw [hexN_len, h.len]
  simp [Lib.lens, wClear, h2]
  omega
theorem rS_1k (x : List Nat × Nat × BitVec 64) (h : Adr x.1) (h4 : x.2.1 < 4294967296) : (rS x).length ≤ 1100 := by
  unfold rS lineR
  rw [Lib.join_length]
  have h1 := textL_len x.2.2
  have h2 : (hexN x.1).length = 42 := by rw [hexN_len, h.len]
  have h3 := decN_len x.2.1 h4
  simp [Lib.lens, wRelease, h2]
  omega
theorem textF_64k (p : PolN) (h : p.Ok) (h1 : p.clears.length ≤ 20) (h2 : p.rels.length ≤ 20) : (textF p).length ≤ 65536 := by
  have h3 : ∀ l ∈ linesF p, l.length ≤ 1100 := by
    rw [linesF_eq]
    intro l hl
    rcases List.mem_cons.1 hl with rfl | hl
    · exact dS_1k _
    · rcases List.mem_append.1 hl with hl | hl
      · obtain ⟨x, hx, rfl⟩ := List.mem_map.1 hl; exact cS_1k x (h.adrC hx)
      · obtain ⟨x, hx, rfl⟩ := List.mem_map.1 hl; exact rS_1k x (h.adrR hx) (h.r x hx).2
  have h4 := flatE_len (linesF p) 1100 h3
  have h5 := linesF_len p
  have h6 : (linesF p).length * (1100 + 1) ≤ 41 * 1101 := Nat.mul_le_mul_right _ (by omega)
  unfold textF
  show ((linesF p).flatMap endl).length ≤ 65536
  omega
set_option maxRecDepth 100000 in
set_option maxHeartbeats 16000000 in
theorem policyTexts_go (p : PolN) (pa : Option Addr) (pc : Nat) (pb : Option Addr) (pd : Nat) (x : Int) (w : World) (hp : PolAt w p pa pc pb pd) (hT : TabP w) (hx1 : -9223372036854775808 ≤ x) (hx2 : x ≤ 9223372036854775807) :
    Calls Tryz.prog 7 #[polV p pa pc pb pd, .int .i64 x] w (Yes w) := by
  have hTt : Hid (∀ W, Below w.heap.size w W → TabP W) := Lib.hid fun W h => hT.below h
  have hpt : Hid (∀ W, Below w.heap.size w W → PolAt W p pa pc pb pd) := Lib.hid fun W h => hp.below h
  have hok := Lib.hid hp.ok
  have hwk := Lib.hid fun W h => worksP_any W (hTt.out W h)
  have hfp : ∀ W, Calls Tryz.prog 9 #[.agg #[labV p.dflt, .slice pa p.clears.length pc, .slice pb p.rels.length pd], .int .i64 20] W fun e w' => e = .returned (.bool (decide (p.clears.length ≤ 20 ∧ p.rels.length ≤ 20))) ∧ Below W.heap.size W w' := fun W => few_any p.dflt pa pb p.clears.length pc p.rels.length pd 20 W
  have hA : Below w.heap.size w (((w.alloc (.cells #[labV p.dflt, .slice pa p.clears.length pc, .slice pb p.rels.length pd] 27)).alloc (.cells #[.int .i64 x] 3)).alloc (.cells #[.bool false] 4)) := xalloc (xalloc (xalloc (xrefl w) _) _) _
  have bP : BlkG (((w.alloc (.cells #[labV p.dflt, .slice pa p.clears.length pc, .slice pb p.rels.length pd] 27)).alloc (.cells #[.int .i64 x] 3)).alloc (.cells #[.bool false] 4)) w.heap.size 27 [labV p.dflt, .slice pa p.clears.length pc, .slice pb p.rels.length pd] := ((BlkG.new w _ [labV p.dflt, .slice pa p.clears.length pc, .slice pb p.rels.length pd]).alloc _).alloc _
  have bm : Box (((w.alloc (.cells #[labV p.dflt, .slice pa p.clears.length pc, .slice pb p.rels.length pd] 27)).alloc (.cells #[.int .i64 x] 3)).alloc (.cells #[.bool false] 4)) (w.heap.size + 1) (.int .i64 x) 3 := by
    have := (Box.new (w.alloc (.cells #[labV p.dflt, .slice pa p.clears.length pc, .slice pb p.rels.length pd] 27)) (.int .i64 x) 3).below (xalloc (xrefl _) (.cells #[.bool false] 4))
    rwa [World.size_alloc] at this
  have br : Box (((w.alloc (.cells #[labV p.dflt, .slice pa p.clears.length pc, .slice pb p.rels.length pd] 27)).alloc (.cells #[.int .i64 x] 3)).alloc (.cells #[.bool false] 4)) (w.heap.size + 2) (.bool false) 4 := by
    have := Box.new ((w.alloc (.cells #[labV p.dflt, .slice pa p.clears.length pc, .slice pb p.rels.length pd] 27)).alloc (.cells #[.int .i64 x] 3)) (.bool false) 4
    rwa [World.size_alloc, World.size_alloc] at this
  have sA : (((w.alloc (.cells #[labV p.dflt, .slice pa p.clears.length pc, .slice pb p.rels.length pd] 27)).alloc (.cells #[.int .i64 x] 3)).alloc (.cells #[.bool false] 4)).heap.size = w.heap.size + 3 := by simp
  have hnil := fun m W => run_eql_fn_nil (P := Tryz.prog) 74 (by kernel_rfl) (.func 68) #[] #[.pointer (some ⟨m, 0, none⟩)] W
  replace bP := Lib.hid bP
  replace bm := Lib.hid bm
  replace br := Lib.hid br
  replace hA := Lib.hid hA
  unfold polV
  clear hp hT
  refine (callsIn_wide (n := 0)).1 ?_
  refine callsIn_of_wp_marks Tryz.func7 rfl trivial ?_ rfl
  simp only [Tryz.ntmps7, List.size_toArray, List.length_cons, List.length_nil, Nat.reduceAdd, Nat.reduceSub, Array.replicate_succ, Array.replicate_zero, List.push_toArray, List.append_toArray, List.nil_append, List.cons_append]
  refine wpIn_wide.2 ?_
  go_upto_region 1 with fail
  generalize ((w.alloc (.cells #[labV p.dflt, .slice pa p.clears.length pc, .slice pb p.rels.length pd] 27)).alloc (.cells #[.int .i64 x] 3)).alloc (.cells #[.bool false] 4) = wA at *
  by_cases hfew : p.clears.length ≤ 20 ∧ p.rels.length ≤ 20
  · have hfd : Hid (decide (p.clears.length ≤ 20 ∧ p.rels.length ≤ 20) = true) := Lib.hid (by simpa using hfew)
    by_cases h0 : checkF p = 0
    · skip
      have hc0 : Hid (checkF p = 0) := Lib.hid h0
      have htx := Lib.hid fun W (hb : Below w.heap.size w W) => textP_any p pa pb pc pd W (hpt.out W hb) (hTt.out W hb) (by omega) (by omega)
      have hrt := Lib.hid fun W (hb : Below w.heap.size w W) => refTextP_any p pa pb pc pd W (hpt.out W hb) (by omega) (by omega)
      have hlo := Lib.hid fun W (hb : Below w.heap.size w W) => linesO_any p pa pb pc pd W (hpt.out W hb) (hTt.out W hb) (by omega) (by omega)
      have hlen : (linesG p).length ≤ 41 := by have := linesG_len p; omega
      have hln := Lib.hid fun W (hb : Below w.heap.size w W) => refLines_any p pa pb pc pd W (hpt.out W hb) (by omega) (by omega)
      have hgl : linesG p = linesF p := by unfold linesG; rw [if_pos h0]
      rw [← hgl] at hln
      have hpr := Lib.hid fun W (hb : Below w.heap.size w W) => parseP_any (textF p) W (hTt.out W hb) (by have := textF_64k p hok.out hfew.1 hfew.2; omega)
      have hpk := parse_ok (parse_text hok.out h0 (textF_64k p hok.out hfew.1 hfew.2))
      have hsm := Lib.hid fun (a2 b2 : Option Addr) (c2 d2 : Nat) W (hb : Below w.heap.size w W) (hq : PolAt W p a2 c2 b2 d2) => sameP_any p p pa pb a2 b2 pc pd c2 d2 W (hpt.out W hb) hq (by omega) (by omega) (by omega) (by omega)
      have hrs := Lib.hid fun (a2 b2 : Option Addr) (c2 d2 : Nat) W (hb : Below w.heap.size w W) (hq : PolAt W p a2 c2 b2 d2) => refSame_eq p pa pb a2 b2 pc pd c2 d2 W (hpt.out W hb) hq (by omega) (by omega)
      rw [textG_ok h0] at htx hrt
      rw [h0] at htx hrt
      unfold PaPost at hpr
      rw [hpk.1, hpk.2] at hpr
      simp only [decide_true] at hsm
      unfold strL at htx
      unfold polV at *
      generalize textF p = tx at *
      clear hgl hpk
      generalize linesG p = ls at *
      clear h0
      go_upto_region 6 with (first
        | (refine wpList_load_mid rfl 27 _ rfl w.heap.size 0 rfl [labV p.dflt, .slice pa p.clears.length pc, .slice pb p.rels.length pd] _ (BlkG.range bP.out) Tryz.underlying27 rfl (by kernel_rfl) ?_)
        | (go_at_call 9; refine (hfp _).mono ?_; rintro e w1 ⟨rfl, hb1⟩; rw [hfd.out]; have hP1 := Lib.hid (bP.out.below hb1); have hm1 := Lib.hid (bm.out.below hb1); have hr1 := Lib.hid (br.out.below hb1); have hB1 := Lib.hid (xtrans hA.out hb1); have hs1 := hb1.size; clear hb1)
        | (refine wpList_load_mid rfl 27 _ rfl w.heap.size 0 rfl [labV p.dflt, .slice pa p.clears.length pc, .slice pb p.rels.length pd] _ (BlkG.range hP1.out) Tryz.underlying27 rfl (by kernel_rfl) ?_)
        | (go_at_call 32; refine (htx.out _ hB1.out).mono ?_; rintro e w2 ⟨rfl, hb2⟩; have hP2 := Lib.hid (hP1.out.below hb2); have hm2 := Lib.hid (hm1.out.below hb2); have hr2 := Lib.hid (hr1.out.below hb2); have hB2 := Lib.hid (xtrans hB1.out hb2); have hs2 := hb2.size; clear hb2)
        | (refine wpList_load_mid rfl 27 _ rfl w.heap.size 0 rfl [labV p.dflt, .slice pa p.clears.length pc, .slice pb p.rels.length pd] _ (BlkG.range hP2.out) Tryz.underlying27 rfl (by kernel_rfl) ?_)
        | (go_at_call 34; refine (hrt.out _ hB2.out).mono ?_; rintro e w3 ⟨rfl, hb3⟩; have hP3 := Lib.hid (hP2.out.below hb3); have hm3 := Lib.hid (hm2.out.below hb3); have hr3 := Lib.hid (hr2.out.below hb3); have hB3 := Lib.hid (xtrans hB2.out hb3); have hs3 := hb3.size; clear hb3))
      have hb34 := xalloc (xrefl w3) (.cells #[.slice none 0 0] 71)
      have bk : Box (w3.alloc (.cells #[.slice none 0 0] 71)) w3.heap.size (.slice none 0 0) 71 := Box.new w3 _ _
      have hz4 : (w3.alloc (.cells #[.slice none 0 0] 71)).heap.size = w3.heap.size + 1 := by rw [World.size_alloc]
      generalize w3.alloc (.cells #[.slice none 0 0] 71) = w4 at *
      have hP4 := Lib.hid (hP3.out.below hb34)
      have hm4 := Lib.hid (hm3.out.below hb34)
      have hr4 := Lib.hid (hr3.out.below hb34)
      have hB4 := Lib.hid (xtrans hB3.out hb34)
      replace bk := Lib.hid bk
      clear hb34 hP1 hP2 hP3 hm1 hm2 hm3 hr1 hr2 hr3 hB1 hB2 hB3
      generalize hk5 : w3.heap.size = k5 at *
      replace hk5 := Lib.hid hk5
      go_upto_region 8 with (first
        | (refine wpList_load_mid rfl 27 _ rfl w.heap.size 0 rfl [labV p.dflt, .slice pa p.clears.length pc, .slice pb p.rels.length pd] _ (BlkG.range hP4.out) Tryz.underlying27 rfl (by kernel_rfl) ?_)
        | (go_at_call 35; refine (hln.out _ hB4.out).mono ?_; rintro e w5 ⟨⟨v5, rfl, ho5⟩, hb5⟩; obtain ⟨a5, c5, rfl, hr5, hge5⟩ := own_row ho5; have bk5 := bk.out.below hb5; have cb := bk5.cell; have fb := bk5.free))
      have ho6 : Only (· = k5) w5 (w5.setCell ⟨k5, 0, none⟩ (.slice a5 ls.length c5)) := (Only.refl _ _).setCell _ _ rfl
      have bk6 := bk5.set (.slice a5 ls.length c5)
      have hs5 := hb5.size
      have hP6 := Lib.hid ((hP4.out.below hb5).only ho6 (by omega))
      have hm6 := Lib.hid ((hm4.out.below hb5).only ho6 (by omega))
      have hr6 := Lib.hid ((hr4.out.below hb5).only ho6 (by omega))
      have hB6 := Lib.hid (ho6.below (xtrans hB4.out hb5) (xtrans hB4.out hb5).size (by rintro i rfl; omega))
      have hrw6 : RowV (w5.setCell ⟨k5, 0, none⟩ (.slice a5 ls.length c5)) a5 (ls.map strL) := row_onlyS hr5 ho6 (fun y hy e => by have := hge5 y hy; have e2 : y.block = k5 := e; omega)
      have hs6 : w5.heap.size = (w5.setCell ⟨k5, 0, none⟩ (.slice a5 ls.length c5)).heap.size := by simp [World.setCell]
      generalize w5.setCell ⟨k5, 0, none⟩ (.slice a5 ls.length c5) = w6 at *
      clear ho5 hr5 hb5 bk5 cb fb ho6 hge5 bk hP4 hm4 hr4 hB4
      replace bk6 := Lib.hid bk6
      replace hrw6 := Lib.hid hrw6
      go_upto_region 11 with (first
        | (refine wpList_load_mid rfl 27 _ rfl w.heap.size 0 rfl [labV p.dflt, .slice pa p.clears.length pc, .slice pb p.rels.length pd] _ (BlkG.range hP6.out) Tryz.underlying27 rfl (by kernel_rfl) ?_)
        | (go_at_call 36; refine (hlo.out _ hB6.out).mono ?_; rintro e w7 ⟨⟨v7, rfl, b7, a7, c7, rfl, hc7, hr7, hge7, hge8⟩, hb7⟩; have hP7 := Lib.hid (hP6.out.below hb7); have hm7 := Lib.hid (hm6.out.below hb7); have hr7b := Lib.hid (hr6.out.below hb7); have bk7 := Lib.hid (bk6.out.below hb7); have hrw7 := Lib.hid (hrw6.out.below hb7); have hB7 := Lib.hid (xtrans hB6.out hb7); have hs7 := hb7.size; clear hb7)
        | (go_at_call 13; refine (num_anyP _ _).mono ?_; rintro e w8 ⟨rfl, rfl⟩))
      have hrl := fun k (hk : RdR a7 ls k) => rdR_lt hr7 hk
      have hRd : Hid (∀ k, RdR a7 ls k → w6.heap.size ≤ k) := Lib.hid fun k hk => by obtain ⟨-, y, e, rfl⟩ := hk; exact hge8 y e
      have hsq : Hid (∀ W, Below w7.heap.size w7 W → SeqP Tryz.prog 68 #[.pointer (some ⟨b7, 0, none⟩)] encL (RdR a7 ls) (fun xs => xs = ixL ls) (fun pre => ∃ k, k ≤ (ixL ls).length ∧ pre = (ixL ls).take k) (ixL ls).length false W) := Lib.hid fun W hb => by have := lines_seq ls b7 a7 c7 W (cbel hb hc7) (hr7.below hb) (by omega); rwa [← ixL_len ls] at this
      clear hc7 hr7 hge7 hge8 hP6 hm6 hr6 bk6 hrw6 hB6
      replace hrl := Lib.hid hrl
      go_upto_region 12 with fail
      have c4 : Below w7.heap.size w7 (w7.alloc (.cells #[.int .i64 0] 3)) := xalloc (xrefl w7) _
      have hS : TwS w p pa pb pc pd ls x k5 a5 c5 w7 (w7.alloc (.cells #[.int .i64 0] 3)) := ⟨hP7.out.below c4, hm7.out.below c4, hr7b.out.below c4, bk7.out.below c4, hrw7.out.below c4, c4, xtrans hB7.out c4⟩
      have bt : Box (w7.alloc (.cells #[.int .i64 0] 3)) w7.heap.size (.int .i64 ((0 : Nat) : Int)) 3 := Box.new w7 _ _
      have l8 : w7.heap.size < (w7.alloc (.cells #[.int .i64 0] 3)).heap.size := by rw [World.size_alloc]; omega
      have l7 : w.heap.size + 3 ≤ w7.heap.size := by omega
      have lk5 : k5 < w7.heap.size := by omega
      obtain ⟨k8, hk8⟩ : ∃ k8, Hid (w7.heap.size = k8) := ⟨_, Lib.hid rfl⟩
      rw [hk8.out] at bt l8
      simp only [hk8.out]
      generalize w7.alloc (.cells #[.int .i64 0] 3) = w8 at *
      clear c4 hP7 hm7 hr7b bk7 hrw7 hB7
      refine wp_loop_rounds 3 ?_
      rw [rounds_succ]
      have ct := bt.cell
      replace hS := Lib.hid hS
      replace bt := Lib.hid bt
      go_wp2_with fail
      have hB9 := xalloc (xrefl w8) (.cells #[.int .i64 0] 3)
      have hn9 : Box (w8.alloc (.cells #[.int .i64 0] 3)) w8.heap.size (.int .i64 ((0 : Nat) : Int)) 3 := Box.new w8 _ _
      have s9 : w8.heap.size < (w8.alloc (.cells #[.int .i64 0] 3)).heap.size := by rw [World.size_alloc]; omega
      obtain ⟨v, hv⟩ : ∃ v, w8.alloc (.cells #[.int .i64 0] 3) = v := ⟨_, rfl⟩
      rw [hv] at hB9 hn9 s9 ⊢
      have l9 := hS.out.h4.size
      have lk8 := bt.out.lt
      refine wp_mid 2 (fun a a' W' => ∃ D, a' = { a with defers := { target := .collected D, args := #[] } :: a.defers } ∧ ∃ m : Nat, (m : Int) = smallF (ls.length : Int) (bigF 1 x) ∧ Below w8.heap.size w8 W' ∧ Box W' w8.heap.size (.int .i64 (m : Int)) 3 ∧ W'.heap[D]? = some (.deferred (some [])) ∧ v.heap.size ≤ D) ?range ?rest (fun _ _ h => h)
      case range =>
        refine (wpIn_wide (n := 0)).1 ?_
        refine wp_rangeL (w0 := w8) (gf := 68) (lb := #[.pointer (some ⟨b7, 0, none⟩)]) rfl (enters_of Tryz.func68 (by kernel_rfl) rfl) (encs := encL) (Rd := RdR a7 ls) (ixL ls)
          (fun k hk => by have := hrl.out k hk; omega) hB9 (fun W hW => hsq.out W (xtrans (xtrans hS.out.h4 hB9) hW)) (fun x => rfl)
          (fun k S W => NbT w8.heap.size (k = 0 ∨ (k : Int) < x) (k : Int) S W) (fun k c S W => (c = .exit 2 ∧ x ≤ ((k + 1 : Nat) : Int)) ∧ NbT w8.heap.size (k = 0 ∨ (k : Int) < x) ((k + 1 : Nat) : Int) S W) (fun k S => NbT.fac) (fun k c S => NbT.fac') (fun j => j = w8.heap.size)
          (fun j hj => ⟨by omega, fun hr => by have := hrl.out j hr; omega⟩) ⟨.inl rfl, by rintro j rfl; omega, rfl, hn9⟩ ?round ?done ?stop
        case round =>
          intro l0 k hk W
          have hk2 : k < ls.length := by rw [← ixL_len ls]; exact hk
          rw [ixL_get ls k hk2]
          have hst := Lib.hid (fun (W : World) (h : RowV W a5 (ls.map strL)) => h k (by simpa using hk2))
          have hkI : (k : Int) < ls.length := by omega
          have hkN : ¬ ls.length ≤ k := by omega
          have hge : Hid ((ls.map strL)[k]'(by simpa using hk2) = .string ⟨(ls[k]).toArray⟩) := Lib.hid (by simp [strL])
          unfold encL
          dsimp only
          generalize (ls.map strL)[k]'(by simpa using hk2) = sv at *
          generalize ls[k] = sk at *
          simp only [List.zip_toArray, List.zip_cons_cons, List.zip_nil_right, List.size_toArray, List.foldl_toArray', List.foldl_cons, List.foldl_nil, List.setIfInBounds_toArray, List.set_cons_succ, List.set_cons_zero]
          gi_wp2
          refine ⟨trivial, fun S W2 hb2 hzz _ hSo hS2 => ?_⟩
          obtain ⟨hpk, h1, h2, hbn⟩ := hS2
          have hF2 := hS.out.below hb2
          have cn := hbn.cell
          have cf := hbn.free
          have cp := hF2.bp.cell
          have cm := hF2.bm.cell
          have ct2 := (bt.out.below hb2).cell
          have ln : ls.length ≤ 41 := hlen
          obtain ⟨b, o, rfl, c0⟩ := hst.out W2 hF2.hp
          rw [hge.out] at c0
          replace hF2 := Lib.hid hF2
          replace hbn := Lib.hid hbn
          replace hSo := Lib.hid hSo
          replace h1 := Lib.hid h1
          clear hb2 ct hst hge
          generalize ls.length = L at *
          generalize w8.heap.size = k9 at *
          by_cases hxk : x ≤ (k : Int) + 1
          · gi_wp2
            exact ⟨(Only.refl S W2).setCell ⟨k9, 0, none⟩ _ h2, S, fun j hj => .inl hj, ⟨rfl, by omega⟩, hpk, (fun j hj => by have := h1.out j hj; simpa [World.setCell] using this), h2, hbn.out.set _⟩
          · gi_wp2
            exact ⟨(Only.refl S W2).setCell ⟨k9, 0, none⟩ _ h2, S, fun j hj => .inl hj, .inr (by omega), (fun j hj => by have := h1.out j hj; simpa [World.setCell] using this), h2, hbn.out.set _⟩
        case done =>
          intro D S W hD hSD hb _ hSw hS2 hK
          rw [ixL_len] at hS2
          obtain ⟨hpk, h1, h2, hbn⟩ := hS2
          exact ⟨.inl rfl, D, rfl, ls.length, by unfold smallF bigF; rcases hpk with h | h <;> (repeat' split) <;> omega, hb, hbn, hK, hD⟩
        case stop =>
          intro D k c S W hkl hD hSD hb _ hSw hS2 hK
          rw [ixL_len] at hkl
          obtain ⟨⟨rfl, hq⟩, hpk, h1, h2, hbn⟩ := hS2
          gi_wp2
          exact ⟨k + 1, by unfold smallF bigF; rcases hpk with h | h <;> (repeat' split) <;> omega, hbn⟩
      case rest =>
        rintro _ W6 ⟨D1, rfl, m, hm, hb6, hn6, hD6, hDl⟩
        have hF6 := hS.out.below hb6
        have ct6 := (bt.out.below hb6).cell
        have cn6 := hn6.cell
        have cp6 := hF6.bp.cell
        have cm6 := hF6.bm.cell
        replace hF6 := Lib.hid hF6
        replace hn6 := Lib.hid hn6
        replace hb6 := Lib.hid hb6
        replace hD6 := Lib.hid hD6
        dsimp only
        go_wp2
        have h67 : Below W6.heap.size W6 (W6.alloc (.cells #[.int .i64 1] 3)) := xalloc (xrefl W6) _
        have bt1 : Box (W6.alloc (.cells #[.int .i64 1] 3)) W6.heap.size (.int .i64 ((1 : Nat) : Int)) 3 := Box.new W6 _ _
        have hS1 := hF6.out.below h67
        have hD1 := (h67.block D1 (Array.getElem?_eq_some_iff.1 hD6.out).1).trans hD6.out
        have l8' : W6.heap.size < (W6.alloc (.cells #[.int .i64 1] 3)).heap.size := by rw [World.size_alloc]; omega
        have l7' : w7.heap.size ≤ W6.heap.size := hF6.out.h4.size
        have hd1w : w.heap.size + 3 ≤ D1 := by omega
        obtain ⟨k8b, hk8b⟩ : ∃ k8b, Hid (W6.heap.size = k8b) := ⟨_, Lib.hid rfl⟩
        rw [hk8b.out] at bt1 l8'
        simp only [hk8b.out]
        generalize W6.alloc (.cells #[.int .i64 1] 3) = wB at *
        replace hD1 := Lib.hid hD1
        clear hS bt ct hB9 hn9 s9 hv l9 lk8 hb6 hn6 hD6 hF6 ct6 cn6 cp6 cm6 hm h67
        rw [rounds_succ]
        have ct := bt1.cell
        replace hS1 := Lib.hid hS1
        replace bt1 := Lib.hid bt1
        go_wp2_with fail
        have hB9 := xalloc (xrefl wB) (.cells #[.int .i64 0] 3)
        have hn9 : Box (wB.alloc (.cells #[.int .i64 0] 3)) wB.heap.size (.int .i64 ((0 : Nat) : Int)) 3 := Box.new wB _ _
        have s9 : wB.heap.size < (wB.alloc (.cells #[.int .i64 0] 3)).heap.size := by rw [World.size_alloc]; omega
        obtain ⟨v, hv⟩ : ∃ v, wB.alloc (.cells #[.int .i64 0] 3) = v := ⟨_, rfl⟩
        rw [hv] at hB9 hn9 s9 ⊢
        have l9 := hS1.out.h4.size
        have lk8 := bt1.out.lt
        refine wp_mid 2 (fun a a' W' => ∃ D, a' = { a with defers := { target := .collected D, args := #[] } :: a.defers } ∧ ∃ m : Nat, m = ls.length ∧ Below wB.heap.size wB W' ∧ Box W' wB.heap.size (.int .i64 (m : Int)) 3 ∧ W'.heap[D]? = some (.deferred (some [])) ∧ v.heap.size ≤ D) ?range ?rest (fun _ _ h => h)
        case range =>
          refine (wpIn_wide (n := 0)).1 ?_
          refine wp_rangeL (w0 := wB) (gf := 68) (lb := #[.pointer (some ⟨b7, 0, none⟩)]) rfl (enters_of Tryz.func68 (by kernel_rfl) rfl) (encs := encL) (Rd := RdR a7 ls) (ixL ls)
            (fun k hk => by have := hrl.out k hk; omega) hB9 (fun W hW => hsq.out W (xtrans (xtrans hS1.out.h4 hB9) hW)) (fun x => rfl)
            (fun k S W => NbT wB.heap.size True (k : Int) S W) (fun k c S W => (c = .exit 2 ∧ False) ∧ NbT wB.heap.size True ((k + 1 : Nat) : Int) S W) (fun k S => NbT.fac) (fun k c S => NbT.fac') (fun j => j = wB.heap.size)
            (fun j hj => ⟨by omega, fun hr => by have := hrl.out j hr; omega⟩) ⟨trivial, by rintro j rfl; omega, rfl, hn9⟩ ?round ?done ?stop
          case round =>
            intro l0 k hk W
            have hk2 : k < ls.length := by rw [← ixL_len ls]; exact hk
            rw [ixL_get ls k hk2]
            have hst := Lib.hid (fun (W : World) (h : RowV W a5 (ls.map strL)) => h k (by simpa using hk2))
            have hkI : (k : Int) < ls.length := by omega
            have hkN : ¬ ls.length ≤ k := by omega
            have hge : Hid ((ls.map strL)[k]'(by simpa using hk2) = .string ⟨(ls[k]).toArray⟩) := Lib.hid (by simp [strL])
            unfold encL
            dsimp only
            generalize (ls.map strL)[k]'(by simpa using hk2) = sv at *
            generalize ls[k] = sk at *
            simp only [List.zip_toArray, List.zip_cons_cons, List.zip_nil_right, List.size_toArray, List.foldl_toArray', List.foldl_cons, List.foldl_nil, List.setIfInBounds_toArray, List.set_cons_succ, List.set_cons_zero]
            gi_wp2
            refine ⟨trivial, fun S W2 hb2 hzz _ hSo hS2 => ?_⟩
            obtain ⟨hpk, h1, h2, hbn⟩ := hS2
            have hF2 := hS1.out.below hb2
            have cn := hbn.cell
            have cf := hbn.free
            have cp := hF2.bp.cell
            have cm := hF2.bm.cell
            have ct2 := (bt1.out.below hb2).cell
            have ln : ls.length ≤ 41 := hlen
            obtain ⟨b, o, rfl, c0⟩ := hst.out W2 hF2.hp
            rw [hge.out] at c0
            replace hF2 := Lib.hid hF2
            replace hbn := Lib.hid hbn
            replace hSo := Lib.hid hSo
            replace h1 := Lib.hid h1
            clear hb2 ct hst hge
            generalize ls.length = L at *
            generalize wB.heap.size = k9 at *
            gi_wp2
            exact ⟨(Only.refl S W2).setCell ⟨k9, 0, none⟩ _ h2, S, fun j hj => .inl hj, trivial, (fun j hj => by have := h1.out j hj; simpa [World.setCell] using this), h2, hbn.out.set _⟩
          case done =>
            intro D S W hD hSD hb _ hSw hS2 hK
            rw [ixL_len] at hS2
            obtain ⟨hpk, h1, h2, hbn⟩ := hS2
            exact ⟨.inl rfl, D, rfl, ls.length, rfl, hb, hbn, hK, hD⟩
          case stop =>
            intro D k c S W hkl hD hSD hb _ hSw hS2 hK
            rw [ixL_len] at hkl
            exact hS2.1.2.elim
        case rest =>
          rintro _ W6 ⟨D2, rfl, m, hm, hb6, hn6, hD6, hDl⟩
          subst hm
          have hF6 := hS1.out.below hb6
          have ct6 := (bt1.out.below hb6).cell
          have cn6 := hn6.cell
          have cp6 := hF6.bp.cell
          have cm6 := hF6.bm.cell
          replace hF6 := Lib.hid hF6
          replace hn6 := Lib.hid hn6
          replace hb6 := Lib.hid hb6
          replace hD6 := Lib.hid hD6
          dsimp only
          go_wp2
          rw [rounds_succ]
          have h67 : Below W6.heap.size W6 (W6.alloc (.cells #[.int .i64 2] 3)) := xalloc (xrefl W6) _
          have btC := (Box.new W6 (.int .i64 2) 3).cell
          have hSC := Lib.hid (hF6.out.below h67)
          have hD1b := Lib.hid ((h67.block D1 (Array.getElem?_eq_some_iff.1 ((hb6.out.block D1 (Array.getElem?_eq_some_iff.1 hD1.out).1).trans hD1.out)).1).trans ((hb6.out.block D1 (Array.getElem?_eq_some_iff.1 hD1.out).1).trans hD1.out))
          have hD2b := Lib.hid ((h67.block D2 (Array.getElem?_eq_some_iff.1 hD6.out).1).trans hD6.out)
          have hdl1 := (Array.getElem?_eq_some_iff.1 hD1.out).1
          generalize W6.alloc (.cells #[.int .i64 2] 3) = wC at *
          have hd2w : D1 < D2 := by omega
          clear hB9 hn9 s9 hv hb6 hn6 hD6 hF6 ct6 cn6 cp6 cm6 h67 hD1
          go_upto_region 29 with (first
            | (go_at_call 29; refine (hpr.out _ hSC.out.hb).mono ?_; rintro e wE ⟨⟨a2, c2, b2, d2, rfl, hq2⟩, hbE⟩; have hSE := Lib.hid (hSC.out.below hbE); have hD1e := Lib.hid ((hbE.block D1 (Array.getElem?_eq_some_iff.1 hD1b.out).1).trans hD1b.out); have hD2e := Lib.hid ((hbE.block D2 (Array.getElem?_eq_some_iff.1 hD2b.out).1).trans hD2b.out); replace hq2 := Lib.hid hq2; replace hbE := Lib.hid hbE)
            | (refine wpList_store_blkG rfl 27 _ _ rfl wE.heap.size rfl 27 [.int .u64 0, .slice none 0 0, .slice none 0 0] [labV p.dflt, .slice a2 p.clears.length c2, .slice b2 p.rels.length d2] (BlkG.new wE _ _) rfl rfl (by kernel_rfl) (by rfl) ?_; intro wF hQF hoF; have hbF := hoF.below (xalloc (xrefl wE) _) (xalloc (xrefl wE) (.cells [.int .u64 0, .slice none 0 0, .slice none 0 0].toArray 27)).size (by rintro k rfl; exact Nat.le_refl _); have hSF := Lib.hid (hSE.out.below hbF); have hD1f := Lib.hid ((hbF.block D1 (Array.getElem?_eq_some_iff.1 hD1e.out).1).trans hD1e.out); have hD2f := Lib.hid ((hbF.block D2 (Array.getElem?_eq_some_iff.1 hD2e.out).1).trans hD2e.out); have hqF := Lib.hid (hq2.out.below hbF); have hQF := Lib.hid hQF; have hzF := hbF.size; clear hoF hbF))
          go_wp2_with (first
                      | (go_at_call 13; refine (num_anyP _ _).mono ?_; rintro e w9 ⟨rfl, rfl⟩)
                      | (refine wpList_load_blkG_g rfl 27 _ rfl w.heap.size rfl 27 [labV p.dflt, .slice pa p.clears.length pc, .slice pb p.rels.length pd] _ (hSF.out.bP) Tryz.underlying27 rfl (by kernel_rfl) ?_)
                      | (refine wpList_load_blkG_g rfl 27 _ rfl wE.heap.size rfl 27 [labV p.dflt, .slice a2 p.clears.length c2, .slice b2 p.rels.length d2] _ (hQF.out) Tryz.underlying27 rfl (by kernel_rfl) ?_)
                      | (go_at_call 31; refine (hrs.out _ _ _ _ _ hSF.out.hb hqF.out).mono ?_; rintro e wG ⟨rfl, hbG⟩; have hSG := Lib.hid (hSF.out.below hbG); have hD1g := Lib.hid ((hbG.block D1 (Array.getElem?_eq_some_iff.1 hD1f.out).1).trans hD1f.out); have hD2g := Lib.hid ((hbG.block D2 (Array.getElem?_eq_some_iff.1 hD2f.out).1).trans hD2f.out); have hqG := Lib.hid (hqF.out.below hbG); have hQG := Lib.hid (hQF.out.below hbG); clear hbG)
                      | (refine wpList_load_blkG_g rfl 27 _ rfl w.heap.size rfl 27 [labV p.dflt, .slice pa p.clears.length pc, .slice pb p.rels.length pd] _ (hSG.out.bP) Tryz.underlying27 rfl (by kernel_rfl) ?_)
                      | (refine wpList_load_blkG_g rfl 27 _ rfl wE.heap.size rfl 27 [labV p.dflt, .slice a2 p.clears.length c2, .slice b2 p.rels.length d2] _ (hQG.out) Tryz.underlying27 rfl (by kernel_rfl) ?_)
                      | (go_at_call 37; refine (hsm.out _ _ _ _ _ hSG.out.hb hqG.out).mono ?_; rintro e wH ⟨rfl, hbH⟩; have hSH := Lib.hid (hSG.out.below hbH); have hD1h := Lib.hid ((hbH.block D1 (Array.getElem?_eq_some_iff.1 hD1g.out).1).trans hD1g.out); have hD2h := Lib.hid ((hbH.block D2 (Array.getElem?_eq_some_iff.1 hD2g.out).1).trans hD2g.out); clear hbH)
                      | (go_at_call 10; refine (hwk.out _ hSH.out.hb).mono ?_; rintro e W8 ⟨rfl, hb8⟩; have hS8 := hSH.out.below hb8; have cr := hS8.br.cell; have fr := hS8.br.free; have hD1c := (hb8.block D1 (Array.getElem?_eq_some_iff.1 hD1h.out).1).trans hD1h.out; have hD2c := (hb8.block D2 (Array.getElem?_eq_some_iff.1 hD2h.out).1).trans hD2h.out; replace hS8 := Lib.hid hS8; replace hD1c := Lib.hid hD1c; replace hD2c := Lib.hid hD2c; replace hb8 := Lib.hid hb8))
          have hne : ∀ D, W8.heap[D]? = some (.deferred (some [])) → D ≠ w.heap.size + 2 := fun D h1 e => by
            have h2 := hS8.out.br
            unfold Box at h2
            rw [e, h2] at h1
            cases h1
          have hn1 := hne D1 hD1c.out
          have hn2 := hne D2 hD2c.out
          have hbE2 : Below w.heap.size w (W8.setCell ⟨w.heap.size + 2, 0, none⟩ (.bool true)) := hS8.out.hb.setCell (by simp only; omega) _
          have hE1 : (W8.setCell ⟨w.heap.size + 2, 0, none⟩ (.bool true)).heap[D1]? = some (.deferred (some [])) := (Below.heap_setCell _ ⟨w.heap.size + 2, 0, none⟩ _ D1 hn1).trans hD1c.out
          have hE2 : (W8.setCell ⟨w.heap.size + 2, 0, none⟩ (.bool true)).heap[D2]? = some (.deferred (some [])) := (Below.heap_setCell _ ⟨w.heap.size + 2, 0, none⟩ _ D2 hn2).trans hD2c.out
          have hE3 := hS8.out.br.set (.bool true)
          generalize W8.setCell ⟨w.heap.size + 2, 0, none⟩ (.bool true) = WE at hbE2 hE1 hE2 hE3 ⊢
          have hk1 : (WE.putObj D2 (.deferred none)).heap[D1]? = some (.deferred (some [])) := (World.putObj_heap_other (by omega)).trans hE1
          have ho := ((Only.refl (fun k => k = D2 ∨ k = D1) WE).putObj D2 (.deferred none) (.inl rfl)).putObj D1 (.deferred none) (.inr rfl)
          refine ⟨by simp, .inl ⟨_, _, rfl, run_takeDeferred hE2, by simp, .inl ⟨_, _, rfl, run_takeDeferred hk1, ?_⟩⟩⟩
          exact ⟨_, results_bool rfl _ _ (w.heap.size + 2) (.bool true) rfl (hE3.only ho (by omega)).cell, rfl, ho.below hbE2 hbE2.size (by rintro i (rfl | rfl) <;> omega)⟩
    · skip
      have hc0 : Hid (checkF p ≠ 0) := Lib.hid h0
      have htx := Lib.hid fun W (hb : Below w.heap.size w W) => textP_any p pa pb pc pd W (hpt.out W hb) (hTt.out W hb) (by omega) (by omega)
      have hrt := Lib.hid fun W (hb : Below w.heap.size w W) => refTextP_any p pa pb pc pd W (hpt.out W hb) (by omega) (by omega)
      have hlo := Lib.hid fun W (hb : Below w.heap.size w W) => linesO_any p pa pb pc pd W (hpt.out W hb) (hTt.out W hb) (by omega) (by omega)
      have hlen : (linesG p).length ≤ 41 := by have := linesG_len p; omega
      have hgl : linesG p = [] := by unfold linesG; rw [if_neg h0]
      have hnB : (((checkF p : Nat) : Int) == 0) = false := by rw [beq_eq_false_iff_ne]; omega
      unfold strL at htx
      unfold polV at *
      generalize textG p = tx at *
      generalize checkF p = nc at *
      generalize linesG p = ls at *
      clear h0
      go_upto_region 6 with (first
        | (refine wpList_load_mid rfl 27 _ rfl w.heap.size 0 rfl [labV p.dflt, .slice pa p.clears.length pc, .slice pb p.rels.length pd] _ (BlkG.range bP.out) Tryz.underlying27 rfl (by kernel_rfl) ?_)
        | (go_at_call 9; refine (hfp _).mono ?_; rintro e w1 ⟨rfl, hb1⟩; rw [hfd.out]; have hP1 := Lib.hid (bP.out.below hb1); have hm1 := Lib.hid (bm.out.below hb1); have hr1 := Lib.hid (br.out.below hb1); have hB1 := Lib.hid (xtrans hA.out hb1); have hs1 := hb1.size; clear hb1)
        | (refine wpList_load_mid rfl 27 _ rfl w.heap.size 0 rfl [labV p.dflt, .slice pa p.clears.length pc, .slice pb p.rels.length pd] _ (BlkG.range hP1.out) Tryz.underlying27 rfl (by kernel_rfl) ?_)
        | (go_at_call 32; refine (htx.out _ hB1.out).mono ?_; rintro e w2 ⟨rfl, hb2⟩; have hP2 := Lib.hid (hP1.out.below hb2); have hm2 := Lib.hid (hm1.out.below hb2); have hr2 := Lib.hid (hr1.out.below hb2); have hB2 := Lib.hid (xtrans hB1.out hb2); have hs2 := hb2.size; clear hb2)
        | (refine wpList_load_mid rfl 27 _ rfl w.heap.size 0 rfl [labV p.dflt, .slice pa p.clears.length pc, .slice pb p.rels.length pd] _ (BlkG.range hP2.out) Tryz.underlying27 rfl (by kernel_rfl) ?_)
        | (go_at_call 34; refine (hrt.out _ hB2.out).mono ?_; rintro e w3 ⟨rfl, hb3⟩; have hP3 := Lib.hid (hP2.out.below hb3); have hm3 := Lib.hid (hm2.out.below hb3); have hr3 := Lib.hid (hr2.out.below hb3); have hB3 := Lib.hid (xtrans hB2.out hb3); have hs3 := hb3.size; clear hb3))
      have hb34 := xalloc (xrefl w3) (.cells #[.slice none 0 0] 71)
      have bk : Box (w3.alloc (.cells #[.slice none 0 0] 71)) w3.heap.size (.slice none 0 0) 71 := Box.new w3 _ _
      have hz4 : (w3.alloc (.cells #[.slice none 0 0] 71)).heap.size = w3.heap.size + 1 := by rw [World.size_alloc]
      generalize w3.alloc (.cells #[.slice none 0 0] 71) = w4 at *
      have hP4 := Lib.hid (hP3.out.below hb34)
      have hm4 := Lib.hid (hm3.out.below hb34)
      have hr4 := Lib.hid (hr3.out.below hb34)
      have hB4 := Lib.hid (xtrans hB3.out hb34)
      replace bk := Lib.hid bk
      clear hb34 hP1 hP2 hP3 hm1 hm2 hm3 hr1 hr2 hr3 hB1 hB2 hB3
      generalize hk5 : w3.heap.size = k5 at *
      replace hk5 := Lib.hid hk5
      obtain ⟨a5, c5, hac⟩ : ∃ (a5 : Option Addr) (c5 : Nat), (Value.slice none 0 0) = .slice a5 ls.length c5 := ⟨none, 0, by rw [hgl]; rfl⟩
      have hrw6 : RowV w4 a5 (ls.map strL) := by rw [hgl]; exact RowV.nil
      have bk6 := bk.out
      rw [hac] at bk6
      have hP6 := hP4
      have hm6 := hm4
      have hr6 := hr4
      have hB6 := hB4
      obtain ⟨w6, hw6⟩ : ∃ w6, w6 = w4 := ⟨_, rfl⟩
      rw [← hw6] at bk6 hP6 hm6 hr6 hB6 hrw6 hz4 ⊢
      replace hgl := Lib.hid hgl
      clear bk hP4 hm4 hr4 hB4 hw6 hac
      go_upto_region 8 with fail
      replace bk6 := Lib.hid bk6
      replace hrw6 := Lib.hid hrw6
      go_upto_region 11 with (first
        | (refine wpList_load_mid rfl 27 _ rfl w.heap.size 0 rfl [labV p.dflt, .slice pa p.clears.length pc, .slice pb p.rels.length pd] _ (BlkG.range hP6.out) Tryz.underlying27 rfl (by kernel_rfl) ?_)
        | (go_at_call 36; refine (hlo.out _ hB6.out).mono ?_; rintro e w7 ⟨⟨v7, rfl, b7, a7, c7, rfl, hc7, hr7, hge7, hge8⟩, hb7⟩; have hP7 := Lib.hid (hP6.out.below hb7); have hm7 := Lib.hid (hm6.out.below hb7); have hr7b := Lib.hid (hr6.out.below hb7); have bk7 := Lib.hid (bk6.out.below hb7); have hrw7 := Lib.hid (hrw6.out.below hb7); have hB7 := Lib.hid (xtrans hB6.out hb7); have hs7 := hb7.size; clear hb7)
        | (go_at_call 13; refine (num_anyP _ _).mono ?_; rintro e w8 ⟨rfl, rfl⟩))
      have hrl := fun k (hk : RdR a7 ls k) => rdR_lt hr7 hk
      have hRd : Hid (∀ k, RdR a7 ls k → w6.heap.size ≤ k) := Lib.hid fun k hk => by obtain ⟨-, y, e, rfl⟩ := hk; exact hge8 y e
      have hsq : Hid (∀ W, Below w7.heap.size w7 W → SeqP Tryz.prog 68 #[.pointer (some ⟨b7, 0, none⟩)] encL (RdR a7 ls) (fun xs => xs = ixL ls) (fun pre => ∃ k, k ≤ (ixL ls).length ∧ pre = (ixL ls).take k) (ixL ls).length false W) := Lib.hid fun W hb => by have := lines_seq ls b7 a7 c7 W (cbel hb hc7) (hr7.below hb) (by omega); rwa [← ixL_len ls] at this
      clear hc7 hr7 hge7 hge8 hP6 hm6 hr6 bk6 hrw6 hB6
      replace hrl := Lib.hid hrl
      go_upto_region 12 with fail
      have c4 : Below w7.heap.size w7 (w7.alloc (.cells #[.int .i64 0] 3)) := xalloc (xrefl w7) _
      have hS : TwS w p pa pb pc pd ls x k5 a5 c5 w7 (w7.alloc (.cells #[.int .i64 0] 3)) := ⟨hP7.out.below c4, hm7.out.below c4, hr7b.out.below c4, bk7.out.below c4, hrw7.out.below c4, c4, xtrans hB7.out c4⟩
      have bt : Box (w7.alloc (.cells #[.int .i64 0] 3)) w7.heap.size (.int .i64 ((0 : Nat) : Int)) 3 := Box.new w7 _ _
      have l8 : w7.heap.size < (w7.alloc (.cells #[.int .i64 0] 3)).heap.size := by rw [World.size_alloc]; omega
      have l7 : w.heap.size + 3 ≤ w7.heap.size := by omega
      have lk5 : k5 < w7.heap.size := by omega
      obtain ⟨k8, hk8⟩ : ∃ k8, Hid (w7.heap.size = k8) := ⟨_, Lib.hid rfl⟩
      rw [hk8.out] at bt l8
      simp only [hk8.out]
      generalize w7.alloc (.cells #[.int .i64 0] 3) = w8 at *
      clear c4 hP7 hm7 hr7b bk7 hrw7 hB7
      refine wp_loop_rounds 3 ?_
      rw [rounds_succ]
      have ct := bt.cell
      replace hS := Lib.hid hS
      replace bt := Lib.hid bt
      go_wp2_with fail
      have hB9 := xalloc (xrefl w8) (.cells #[.int .i64 0] 3)
      have hn9 : Box (w8.alloc (.cells #[.int .i64 0] 3)) w8.heap.size (.int .i64 ((0 : Nat) : Int)) 3 := Box.new w8 _ _
      have s9 : w8.heap.size < (w8.alloc (.cells #[.int .i64 0] 3)).heap.size := by rw [World.size_alloc]; omega
      obtain ⟨v, hv⟩ : ∃ v, w8.alloc (.cells #[.int .i64 0] 3) = v := ⟨_, rfl⟩
      rw [hv] at hB9 hn9 s9 ⊢
      have l9 := hS.out.h4.size
      have lk8 := bt.out.lt
      refine wp_mid 2 (fun a a' W' => ∃ D, a' = { a with defers := { target := .collected D, args := #[] } :: a.defers } ∧ ∃ m : Nat, (m : Int) = smallF (ls.length : Int) (bigF 1 x) ∧ Below w8.heap.size w8 W' ∧ Box W' w8.heap.size (.int .i64 (m : Int)) 3 ∧ W'.heap[D]? = some (.deferred (some [])) ∧ v.heap.size ≤ D) ?range ?rest (fun _ _ h => h)
      case range =>
        refine (wpIn_wide (n := 0)).1 ?_
        refine wp_rangeL (w0 := w8) (gf := 68) (lb := #[.pointer (some ⟨b7, 0, none⟩)]) rfl (enters_of Tryz.func68 (by kernel_rfl) rfl) (encs := encL) (Rd := RdR a7 ls) (ixL ls)
          (fun k hk => by have := hrl.out k hk; omega) hB9 (fun W hW => hsq.out W (xtrans (xtrans hS.out.h4 hB9) hW)) (fun x => rfl)
          (fun k S W => NbT w8.heap.size (k = 0 ∨ (k : Int) < x) (k : Int) S W) (fun k c S W => (c = .exit 2 ∧ x ≤ ((k + 1 : Nat) : Int)) ∧ NbT w8.heap.size (k = 0 ∨ (k : Int) < x) ((k + 1 : Nat) : Int) S W) (fun k S => NbT.fac) (fun k c S => NbT.fac') (fun j => j = w8.heap.size)
          (fun j hj => ⟨by omega, fun hr => by have := hrl.out j hr; omega⟩) ⟨.inl rfl, by rintro j rfl; omega, rfl, hn9⟩ ?round ?done ?stop
        case round =>
          intro l0 k hk W
          have hk2 : k < ls.length := by rw [← ixL_len ls]; exact hk
          rw [ixL_get ls k hk2]
          have hst := Lib.hid (fun (W : World) (h : RowV W a5 (ls.map strL)) => h k (by simpa using hk2))
          have hkI : (k : Int) < ls.length := by omega
          have hkN : ¬ ls.length ≤ k := by omega
          have hge : Hid ((ls.map strL)[k]'(by simpa using hk2) = .string ⟨(ls[k]).toArray⟩) := Lib.hid (by simp [strL])
          unfold encL
          dsimp only
          generalize (ls.map strL)[k]'(by simpa using hk2) = sv at *
          generalize ls[k] = sk at *
          simp only [List.zip_toArray, List.zip_cons_cons, List.zip_nil_right, List.size_toArray, List.foldl_toArray', List.foldl_cons, List.foldl_nil, List.setIfInBounds_toArray, List.set_cons_succ, List.set_cons_zero]
          gi_wp2
          refine ⟨trivial, fun S W2 hb2 hzz _ hSo hS2 => ?_⟩
          obtain ⟨hpk, h1, h2, hbn⟩ := hS2
          have hF2 := hS.out.below hb2
          have cn := hbn.cell
          have cf := hbn.free
          have cp := hF2.bp.cell
          have cm := hF2.bm.cell
          have ct2 := (bt.out.below hb2).cell
          have ln : ls.length ≤ 41 := hlen
          obtain ⟨b, o, rfl, c0⟩ := hst.out W2 hF2.hp
          rw [hge.out] at c0
          replace hF2 := Lib.hid hF2
          replace hbn := Lib.hid hbn
          replace hSo := Lib.hid hSo
          replace h1 := Lib.hid h1
          clear hb2 ct hst hge
          generalize ls.length = L at *
          generalize w8.heap.size = k9 at *
          by_cases hxk : x ≤ (k : Int) + 1
          · gi_wp2
            exact ⟨(Only.refl S W2).setCell ⟨k9, 0, none⟩ _ h2, S, fun j hj => .inl hj, ⟨rfl, by omega⟩, hpk, (fun j hj => by have := h1.out j hj; simpa [World.setCell] using this), h2, hbn.out.set _⟩
          · gi_wp2
            exact ⟨(Only.refl S W2).setCell ⟨k9, 0, none⟩ _ h2, S, fun j hj => .inl hj, .inr (by omega), (fun j hj => by have := h1.out j hj; simpa [World.setCell] using this), h2, hbn.out.set _⟩
        case done =>
          intro D S W hD hSD hb _ hSw hS2 hK
          rw [ixL_len] at hS2
          obtain ⟨hpk, h1, h2, hbn⟩ := hS2
          exact ⟨.inl rfl, D, rfl, ls.length, by unfold smallF bigF; rcases hpk with h | h <;> (repeat' split) <;> omega, hb, hbn, hK, hD⟩
        case stop =>
          intro D k c S W hkl hD hSD hb _ hSw hS2 hK
          rw [ixL_len] at hkl
          obtain ⟨⟨rfl, hq⟩, hpk, h1, h2, hbn⟩ := hS2
          gi_wp2
          exact ⟨k + 1, by unfold smallF bigF; rcases hpk with h | h <;> (repeat' split) <;> omega, hbn⟩
      case rest =>
        rintro _ W6 ⟨D1, rfl, m, hm, hb6, hn6, hD6, hDl⟩
        have hF6 := hS.out.below hb6
        have ct6 := (bt.out.below hb6).cell
        have cn6 := hn6.cell
        have cp6 := hF6.bp.cell
        have cm6 := hF6.bm.cell
        replace hF6 := Lib.hid hF6
        replace hn6 := Lib.hid hn6
        replace hb6 := Lib.hid hb6
        replace hD6 := Lib.hid hD6
        dsimp only
        go_wp2
        have h67 : Below W6.heap.size W6 (W6.alloc (.cells #[.int .i64 1] 3)) := xalloc (xrefl W6) _
        have bt1 : Box (W6.alloc (.cells #[.int .i64 1] 3)) W6.heap.size (.int .i64 ((1 : Nat) : Int)) 3 := Box.new W6 _ _
        have hS1 := hF6.out.below h67
        have hD1 := (h67.block D1 (Array.getElem?_eq_some_iff.1 hD6.out).1).trans hD6.out
        have l8' : W6.heap.size < (W6.alloc (.cells #[.int .i64 1] 3)).heap.size := by rw [World.size_alloc]; omega
        have l7' : w7.heap.size ≤ W6.heap.size := hF6.out.h4.size
        have hd1w : w.heap.size + 3 ≤ D1 := by omega
        obtain ⟨k8b, hk8b⟩ : ∃ k8b, Hid (W6.heap.size = k8b) := ⟨_, Lib.hid rfl⟩
        rw [hk8b.out] at bt1 l8'
        simp only [hk8b.out]
        generalize W6.alloc (.cells #[.int .i64 1] 3) = wB at *
        replace hD1 := Lib.hid hD1
        clear hS bt ct hB9 hn9 s9 hv l9 lk8 hb6 hn6 hD6 hF6 ct6 cn6 cp6 cm6 hm h67
        rw [rounds_succ]
        have ct := bt1.cell
        replace hS1 := Lib.hid hS1
        replace bt1 := Lib.hid bt1
        go_wp2_with fail
        have hB9 := xalloc (xrefl wB) (.cells #[.int .i64 0] 3)
        have hn9 : Box (wB.alloc (.cells #[.int .i64 0] 3)) wB.heap.size (.int .i64 ((0 : Nat) : Int)) 3 := Box.new wB _ _
        have s9 : wB.heap.size < (wB.alloc (.cells #[.int .i64 0] 3)).heap.size := by rw [World.size_alloc]; omega
        obtain ⟨v, hv⟩ : ∃ v, wB.alloc (.cells #[.int .i64 0] 3) = v := ⟨_, rfl⟩
        rw [hv] at hB9 hn9 s9 ⊢
        have l9 := hS1.out.h4.size
        have lk8 := bt1.out.lt
        refine wp_mid 2 (fun a a' W' => ∃ D, a' = { a with defers := { target := .collected D, args := #[] } :: a.defers } ∧ ∃ m : Nat, m = ls.length ∧ Below wB.heap.size wB W' ∧ Box W' wB.heap.size (.int .i64 (m : Int)) 3 ∧ W'.heap[D]? = some (.deferred (some [])) ∧ v.heap.size ≤ D) ?range ?rest (fun _ _ h => h)
        case range =>
          refine (wpIn_wide (n := 0)).1 ?_
          refine wp_rangeL (w0 := wB) (gf := 68) (lb := #[.pointer (some ⟨b7, 0, none⟩)]) rfl (enters_of Tryz.func68 (by kernel_rfl) rfl) (encs := encL) (Rd := RdR a7 ls) (ixL ls)
            (fun k hk => by have := hrl.out k hk; omega) hB9 (fun W hW => hsq.out W (xtrans (xtrans hS1.out.h4 hB9) hW)) (fun x => rfl)
            (fun k S W => NbT wB.heap.size True (k : Int) S W) (fun k c S W => (c = .exit 2 ∧ False) ∧ NbT wB.heap.size True ((k + 1 : Nat) : Int) S W) (fun k S => NbT.fac) (fun k c S => NbT.fac') (fun j => j = wB.heap.size)
            (fun j hj => ⟨by omega, fun hr => by have := hrl.out j hr; omega⟩) ⟨trivial, by rintro j rfl; omega, rfl, hn9⟩ ?round ?done ?stop
          case round =>
            intro l0 k hk W
            have hk2 : k < ls.length := by rw [← ixL_len ls]; exact hk
            rw [ixL_get ls k hk2]
            have hst := Lib.hid (fun (W : World) (h : RowV W a5 (ls.map strL)) => h k (by simpa using hk2))
            have hkI : (k : Int) < ls.length := by omega
            have hkN : ¬ ls.length ≤ k := by omega
            have hge : Hid ((ls.map strL)[k]'(by simpa using hk2) = .string ⟨(ls[k]).toArray⟩) := Lib.hid (by simp [strL])
            unfold encL
            dsimp only
            generalize (ls.map strL)[k]'(by simpa using hk2) = sv at *
            generalize ls[k] = sk at *
            simp only [List.zip_toArray, List.zip_cons_cons, List.zip_nil_right, List.size_toArray, List.foldl_toArray', List.foldl_cons, List.foldl_nil, List.setIfInBounds_toArray, List.set_cons_succ, List.set_cons_zero]
            gi_wp2
            refine ⟨trivial, fun S W2 hb2 hzz _ hSo hS2 => ?_⟩
            obtain ⟨hpk, h1, h2, hbn⟩ := hS2
            have hF2 := hS1.out.below hb2
            have cn := hbn.cell
            have cf := hbn.free
            have cp := hF2.bp.cell
            have cm := hF2.bm.cell
            have ct2 := (bt1.out.below hb2).cell
            have ln : ls.length ≤ 41 := hlen
            obtain ⟨b, o, rfl, c0⟩ := hst.out W2 hF2.hp
            rw [hge.out] at c0
            replace hF2 := Lib.hid hF2
            replace hbn := Lib.hid hbn
            replace hSo := Lib.hid hSo
            replace h1 := Lib.hid h1
            clear hb2 ct hst hge
            generalize ls.length = L at *
            generalize wB.heap.size = k9 at *
            gi_wp2
            exact ⟨(Only.refl S W2).setCell ⟨k9, 0, none⟩ _ h2, S, fun j hj => .inl hj, trivial, (fun j hj => by have := h1.out j hj; simpa [World.setCell] using this), h2, hbn.out.set _⟩
          case done =>
            intro D S W hD hSD hb _ hSw hS2 hK
            rw [ixL_len] at hS2
            obtain ⟨hpk, h1, h2, hbn⟩ := hS2
            exact ⟨.inl rfl, D, rfl, ls.length, rfl, hb, hbn, hK, hD⟩
          case stop =>
            intro D k c S W hkl hD hSD hb _ hSw hS2 hK
            rw [ixL_len] at hkl
            exact hS2.1.2.elim
        case rest =>
          rintro _ W6 ⟨D2, rfl, m, hm, hb6, hn6, hD6, hDl⟩
          subst hm
          have hF6 := hS1.out.below hb6
          have ct6 := (bt1.out.below hb6).cell
          have cn6 := hn6.cell
          have cp6 := hF6.bp.cell
          have cm6 := hF6.bm.cell
          replace hF6 := Lib.hid hF6
          replace hn6 := Lib.hid hn6
          replace hb6 := Lib.hid hb6
          replace hD6 := Lib.hid hD6
          dsimp only
          go_wp2
          rw [rounds_succ]
          have h67 : Below W6.heap.size W6 (W6.alloc (.cells #[.int .i64 2] 3)) := xalloc (xrefl W6) _
          have btC := (Box.new W6 (.int .i64 2) 3).cell
          have hSC := Lib.hid (hF6.out.below h67)
          have hD1b := Lib.hid ((h67.block D1 (Array.getElem?_eq_some_iff.1 ((hb6.out.block D1 (Array.getElem?_eq_some_iff.1 hD1.out).1).trans hD1.out)).1).trans ((hb6.out.block D1 (Array.getElem?_eq_some_iff.1 hD1.out).1).trans hD1.out))
          have hD2b := Lib.hid ((h67.block D2 (Array.getElem?_eq_some_iff.1 hD6.out).1).trans hD6.out)
          have hdl1 := (Array.getElem?_eq_some_iff.1 hD1.out).1
          generalize W6.alloc (.cells #[.int .i64 2] 3) = wC at *
          have hd2w : D1 < D2 := by omega
          clear hB9 hn9 s9 hv hb6 hn6 hD6 hF6 ct6 cn6 cp6 cm6 h67 hD1
          go_wp2_with (go_at_call 10; refine (hwk.out _ hSC.out.hb).mono ?_; rintro e W8 ⟨rfl, hb8⟩; have hS8 := hSC.out.below hb8; have cr := hS8.br.cell; have fr := hS8.br.free; have hD1c := (hb8.block D1 (Array.getElem?_eq_some_iff.1 hD1b.out).1).trans hD1b.out; have hD2c := (hb8.block D2 (Array.getElem?_eq_some_iff.1 hD2b.out).1).trans hD2b.out; replace hS8 := Lib.hid hS8; replace hD1c := Lib.hid hD1c; replace hD2c := Lib.hid hD2c; replace hb8 := Lib.hid hb8)
          have hne : ∀ D, W8.heap[D]? = some (.deferred (some [])) → D ≠ w.heap.size + 2 := fun D h1 e => by
            have h2 := hS8.out.br
            unfold Box at h2
            rw [e, h2] at h1
            cases h1
          have hn1 := hne D1 hD1c.out
          have hn2 := hne D2 hD2c.out
          have hbE2 : Below w.heap.size w (W8.setCell ⟨w.heap.size + 2, 0, none⟩ (.bool true)) := hS8.out.hb.setCell (by simp only; omega) _
          have hE1 : (W8.setCell ⟨w.heap.size + 2, 0, none⟩ (.bool true)).heap[D1]? = some (.deferred (some [])) := (Below.heap_setCell _ ⟨w.heap.size + 2, 0, none⟩ _ D1 hn1).trans hD1c.out
          have hE2 : (W8.setCell ⟨w.heap.size + 2, 0, none⟩ (.bool true)).heap[D2]? = some (.deferred (some [])) := (Below.heap_setCell _ ⟨w.heap.size + 2, 0, none⟩ _ D2 hn2).trans hD2c.out
          have hE3 := hS8.out.br.set (.bool true)
          generalize W8.setCell ⟨w.heap.size + 2, 0, none⟩ (.bool true) = WE at hbE2 hE1 hE2 hE3 ⊢
          have hk1 : (WE.putObj D2 (.deferred none)).heap[D1]? = some (.deferred (some [])) := (World.putObj_heap_other (by omega)).trans hE1
          have ho := ((Only.refl (fun k => k = D2 ∨ k = D1) WE).putObj D2 (.deferred none) (.inl rfl)).putObj D1 (.deferred none) (.inr rfl)
          refine ⟨by simp, .inl ⟨_, _, rfl, run_takeDeferred hE2, by simp, .inl ⟨_, _, rfl, run_takeDeferred hk1, ?_⟩⟩⟩
          exact ⟨_, results_bool rfl _ _ (w.heap.size + 2) (.bool true) rfl (hE3.only ho (by omega)).cell, rfl, ho.below hbE2 hbE2.size (by rintro i (rfl | rfl) <;> omega)⟩
  · have hfd : Hid (decide (p.clears.length ≤ 20 ∧ p.rels.length ≤ 20) = false) := Lib.hid (by simpa using hfew)
    clear hfew
    go_wp2_with (first
          | (refine wpList_load_mid rfl 27 _ rfl w.heap.size 0 rfl [labV p.dflt, .slice pa p.clears.length pc, .slice pb p.rels.length pd] _ (BlkG.range bP.out) Tryz.underlying27 rfl (by kernel_rfl) ?_)
          | (go_at_call 9; refine (hfp _).mono ?_; rintro e w1 ⟨rfl, hb1⟩; rw [hfd.out]; have hP1 := Lib.hid (bP.out.below hb1); have hm1 := Lib.hid (bm.out.below hb1); have hr1 := Lib.hid (br.out.below hb1); have hB1 := Lib.hid (xtrans hA.out hb1); have hs1 := hb1.size; clear hb1)
          | (go_at_call 10; refine (hwk.out _ hB1.out).mono ?_; rintro e W8 ⟨rfl, hb8⟩; have hr8 := hr1.out.below hb8; have cr := hr8.cell; have fr := hr8.free; have hB8 := Lib.hid (xtrans hB1.out hb8); replace hr8 := Lib.hid hr8; clear hb8))
    have hbE := hB8.out.setCell (by simp only; omega : w.heap.size ≤ (⟨w.heap.size + 2, 0, none⟩ : Addr).block) (.bool true)
    have hE3 := hr8.out.set (.bool true)
    exact ⟨_, results_bool rfl _ _ (w.heap.size + 2) (.bool true) rfl hE3.cell, rfl, hbE⟩
theorem policyTexts_walk (p : PolN) (pa : Option Addr) (pc : Nat) (pb : Option Addr) (pd : Nat) (x1 : Int) (w : World) (hp : PolAt w p pa pc pb pd) (hx : -9223372036854775808 ≤ x1 ∧ x1 ≤ 9223372036854775807) (hT : TabP w) :
    Calls Tryz.prog 7 #[polV p pa pc pb pd, .int .i64 x1] w (Yes w) := policyTexts_go p pa pc pb pd x1 w hp hT hx.1 hx.2
end Go.Proofs.YthpallkphamobaaGreatDoor
