/- Texts of this claim, merged; no condition. -/
import Derived.Test.YthpallkphamobaaGreatDoorJ25
import Derived.Test.YthpallkphamobaaGreatDoorJ03
set_option linter.all false
namespace Go.Proofs.YthpallkphamobaaGreatDoor
open Go.RowKit Go.Shelf

theorem grows_okP {P : Program} {W W' : World} {v : Value} {r : Result Next} (h : r = .ok (.value v) W') (hb : Below W.heap.size W W') : growsUpon P W v r := by
  subst h; exact ⟨rfl, hb⟩
theorem wpList_execR {P : Program} {ops : Array Oper} {rest : List Oper} {o : Oper} {a : Act} {w : World} {Q : Exit → Act → World → Prop} (hgd : o.guard = none) (v : Value) (w' : World) (hr : (execOp a.eval o).run P w = .ok (.value v) w') (h : wpList P ops Q rest (a.put o.dst v) w') : wpList P ops Q (o :: rest) a w :=
  wpList_plain hgd fun _ hK => by unfold Oper.wp; rw [hr]; exact hK _ _ h
/-- Two addresses compared, in a region. -/
theorem exec_eqlA {o : Oper} {ac : Act} {w : World} (x y : Operand) (ho : o.op = .binOp .eql 29 x y 29) (a b : List Nat) (ha : Adr a) (hb : Adr b) (hx : ac.eval x = adrV a) (hy : ac.eval y = adrV b) : (execOp ac.eval o).run Tryz.prog w = .ok (.value (.bool (decide (a = b)))) w := by
  have h := eql_adr a b ha hb w
  unfold execOp
  simp only [ho, hx, hy, Sem.run_bind, Sem.run_pure, Result.andThen_ok, adrV, run_eqGuard_agg (hm := (by kernel_rfl : Tryz.prog.eqGuardType Tryz.prog.depth 29 = false))]
  unfold adrV at h
  simp only [h, Result.andThen_ok]
def pW : PolN := ⟨0, [(ofL 1, 3)], [(ofL 1, 7, 2)]⟩
def pR : PolN := ⟨0, [], [(ofL 2, 0, 2)]⟩
theorem pW_ok : pW.Ok := by
  refine ⟨fun x hx => ?_, fun x hx => ?_⟩
  · simp only [pW, List.mem_singleton] at hx; subst hx; exact ⟨rfl, (ofL_adr (n := 1) (by decide)).ok⟩
  · simp only [pW, List.mem_singleton] at hx; subst hx; exact ⟨⟨rfl, (ofL_adr (n := 1) (by decide)).ok⟩, by decide⟩
theorem pR_ok : pR.Ok := by
  refine ⟨fun x hx => (by cases hx), fun x hx => ?_⟩
  simp only [pR, List.mem_singleton] at hx; subst hx; exact ⟨⟨rfl, (ofL_adr (n := 2) (by decide)).ok⟩, by decide⟩
theorem textL3 : textL 3 = [48, 44, 49] := by
  have h : memL 3 = [0, 1] := by decide
  unfold textL
  rw [h, if_neg (by decide), List.map_cons, List.map_cons, dec_lo 0 (by decide), dec_lo 1 (by decide)]
  decide
theorem textL2 : textL 2 = [49] := by
  have h : memL 2 = [1] := by decide
  unfold textL
  rw [h, if_neg (by decide), List.map_cons, dec_lo 1 (by decide)]
  decide
theorem words_pW : wordsF pW = [[wDefault, [45]], [wClear, hexN (ofL 1), [48, 44, 49]], [wRelease, hexN (ofL 1), [55], [49]]] := by
  unfold wordsF lineD
  show [wDefault, textL 0] :: ([lineC (ofL 1, 3)] ++ [lineR (ofL 1, 7, 2)]) = _
  unfold lineC lineR
  rw [text_zero, textL3, textL2, dec_lo 7 (by decide)]
  rfl
theorem text_pW : textF pW = ([[wDefault, [45]], [wClear, hexN (ofL 1), [48, 44, 49]], [wRelease, hexN (ofL 1), [55], [49]]].map fun l => Lib.join l [32]).flatMap (· ++ [10]) := by
  unfold textF linesF
  rw [words_pW]
theorem pW_check : checkF pW = 0 := by decide +kernel
theorem pR_check : checkF pR = 2 := by decide +kernel
theorem str_pW : ((⟨#[100, 101, 102, 97, 117, 108, 116, 32, 45, 10, 99, 108, 101, 97, 114, 32]⟩ : ByteArray) ++ ⟨(hexN (ofL 1)).toArray⟩ ++ ⟨#[32, 48, 44, 49, 10, 114, 101, 108, 101, 97, 115, 101, 32]⟩ ++ ⟨(hexN (ofL 1)).toArray⟩ ++ ⟨#[32, 55, 32, 49, 10]⟩) = ⟨(textF pW).toArray⟩ := by
  rw [text_pW]
  kernel_rfl
theorem tgt7 : tgtV (targetF pW (ofL 1) 7) = .tuple #[.int .u64 2, .bool true] := by kernel_rfl
theorem tgt8 : tgtV (targetF pW (ofL 1) 8) = .tuple #[.int .u64 0, .bool false] := by kernel_rfl
theorem clr1 : labV (clearF pW (ofL 1)) = .int .u64 3 := by kernel_rfl
theorem clr2 : labV (clearF pW (ofL 2)) = .int .u64 0 := by kernel_rfl
theorem adr_bad : addrF [48, 120, 49] = none := by decide +kernel
theorem text_len : (textF pW).length ≤ 65536 := by rw [text_pW]; decide +kernel
theorem word5 : (.agg #[.int .u64 5, .int .u64 0, .int .u64 4294967296, .int .u64 0] : Value) = wordV (5 + 4294967296 * 2 ^ 128) := by kernel_rfl
theorem of5 : ofN (5 + 4294967296 * 2 ^ 128) = ofL 5 := by decide +kernel
theorem built2 : Tryz.prog.built 67 [(0, adrV (ofL 2)), (2, .int .u64 2)] = some (relC (ofL 2, 0, 2)).toArray := by kernel_rfl
theorem builtP (q : Nat) : Tryz.prog.built 27 [(2, .slice (some ⟨q, 0, none⟩) 1 1)] = some #[.int .u64 0, .slice none 0 0, .slice (some ⟨q, 0, none⟩) 1 1] := by kernel_rfl
theorem parse_pW (w : World) (hT : TabP w) : Calls Tryz.prog 29 #[.string ((⟨#[100, 101, 102, 97, 117, 108, 116, 32, 45, 10, 99, 108, 101, 97, 114, 32]⟩ : ByteArray) ++ ⟨(hexN (ofL 1)).toArray⟩ ++ ⟨#[32, 48, 44, 49, 10, 114, 101, 108, 101, 97, 115, 101, 32]⟩ ++ ⟨(hexN (ofL 1)).toArray⟩ ++ ⟨#[32, 55, 32, 49, 10]⟩)] w fun e w' => (∃ pa pc pb pd, e = .returned (.tuple #[.agg #[.int .u64 0, .slice pa 1 pc, .slice pb 1 pd], .int .i64 0]) ∧ PolAt w' pW pa pc pb pd) ∧ Below w.heap.size w w' := by
  rw [str_pW]
  refine (parseP_any (textF pW) w hT (by have := text_len; omega)).mono ?_
  rintro e w' ⟨⟨a, c, b, d, rfl, hp⟩, hb⟩
  obtain ⟨h1, h2⟩ := parse_ok (parse_text pW_ok pW_check text_len)
  rw [h2] at hp
  rw [h1, h2]
  exact ⟨⟨a, c, b, d, rfl, hp⟩, hb⟩
theorem rel2_at (w : World) : PolAt (w.alloc (.cells (relC (ofL 2, 0, 2)).toArray 67)) pR none 0 (some ⟨w.heap.size, 0, none⟩) 1 :=
  ⟨RowsAt.none, ⟨fun i hi => ⟨_, 0, rfl, by
    have h0 : i = 0 := by simp only [pR, List.length_singleton] at hi; omega
    subst h0
    exact (BlkG.new w _ _).range⟩, fun e => (by cases e), by simp [pR]⟩, pR_ok⟩
set_option maxRecDepth 100000 in
set_option maxHeartbeats 8000000 in
theorem worksP_any (w : World) (hT : TabP w) : Calls Tryz.prog 10 #[] w fun e w' => e = .returned (.bool true) ∧ Below w.heap.size w w' := by
  have hof1 := Lib.hid (ofc_any 1)
  have hof2 := Lib.hid (ofc_any 2)
  have hof5 := Lib.hid (ofc_any 5)
  have hnm := Lib.hid (fun W => refName_any (ofL 1) (ofL_adr (by decide)) W)
  have hpa := Lib.hid parse_pW
  have hTt : Hid (∀ W, Below w.heap.size w W → TabP W) := Lib.hid fun W h => hT.below h
  have hTg : Hid (∀ (k : Nat) (v : Value), tgtV (targetF pW (ofL 1) k) = v → ∀ pa pc pb pd W, PolAt W pW pa pc pb pd → Calls Tryz.prog 11 #[.agg #[.int .u64 0, .slice pa 1 pc, .slice pb 1 pd], adrV (ofL 1), .int .u32 k] W fun e w' => e = .returned v ∧ Below W.heap.size W w') := Lib.hid fun k v e pa pc pb pd W h => e ▸ target_any pW (ofL 1) k pa pb pc pd W h (ofL_adr (by decide)) (by decide)
  have hCl : Hid (∀ (k : Nat) (v : Value), Adr (ofL k) → labV (clearF pW (ofL k)) = v → ∀ pa pc pb pd W, PolAt W pW pa pc pb pd → Calls Tryz.prog 16 #[.agg #[.int .u64 0, .slice pa 1 pc, .slice pb 1 pd], adrV (ofL k)] W fun e w' => e = .returned v ∧ Below W.heap.size W w') := Lib.hid fun k v ha e pa pc pb pd W h => e ▸ clearance_any pW (ofL k) pa pb pc pd W h ha (by decide)
  have hOf : Hid (∀ W, Calls Tryz.prog 26 #[.agg #[.int .u64 5, .int .u64 0, .int .u64 4294967296, .int .u64 0]] W fun e w' => e = .returned (adrV (ofL 5)) ∧ Below W.heap.size W w') := Lib.hid fun W => by
    have := ofA_any (5 + 4294967296 * 2 ^ 128) W
    rwa [of5, ← word5] at this
  have heq5 : Hid (∀ (W : World) (o : Oper) (ac : Act), o.op = .binOp .eql 29 (.tmp 85) (.tmp 86) 29 → ac.eval (.tmp 85) = adrV (ofL 5) → ac.eval (.tmp 86) = adrV (ofL 5) → (execOp ac.eval o).run Tryz.prog W = .ok (.value (.bool true)) W) := Lib.hid fun W o ac h1 h2 h3 => (exec_eqlA _ _ h1 _ _ (ofL_adr (by decide)) (ofL_adr (by decide)) h2 h3).trans (by rw [decide_eq_true rfl])
  have had := Lib.hid (fun W => address_no [48, 120, 49] W (by decide) adr_bad)
  have hch : Hid (∀ W, Calls Tryz.prog 14 #[.agg #[.int .u64 0, .slice none 0 0, .slice (some ⟨W.heap.size, 0, none⟩) 1 1]] (W.alloc (.cells (relC (ofL 2, 0, 2)).toArray 67)) fun e w' => e = .returned (.int .i64 2) ∧ Below W.heap.size W w') := Lib.hid fun W => (check_any pR none (some ⟨W.heap.size, 0, none⟩) 0 1 _ (rel2_at W) (by decide) (by decide)).mono fun e w' h => ⟨by rw [h.1, pR_check]; rfl, xtrans (xalloc (xrefl W) _) h.2⟩
  have hbl2 := Lib.hid built2
  have hbs2 : ∀ W, (Instr.buildSlice 25 1 #[(0, .agg (relC (ofL 2, 0, 2)).toArray)]).run Tryz.prog W = .ok (.slice (some ⟨W.heap.size, 0, none⟩) 1 1) (W.alloc (.cells (relC (ofL 2, 0, 2)).toArray 67)) := bsl_rel (ofL 2) 0 2 rfl
  have hAd2 : Adr (ofL 2) := ofL_adr (by decide)
  have hAd1 : Adr (ofL 1) := ofL_adr (by decide)
  have hT7 := tgt7
  have hT8 := tgt8
  have hC1 := clr1
  have hC2 := clr2
  replace hT7 := Lib.hid (hTg.out 7 _ hT7)
  replace hT8 := Lib.hid (hTg.out 8 _ hT8)
  replace hC1 := Lib.hid (hCl.out 1 _ hAd1 hC1)
  replace hC2 := Lib.hid (hCl.out 2 _ hAd2 hC2)
  have hlz : (adrC zAdr).length = 20 := rfl
  have honez : (adrC zAdr).all (·.oneCell') = true := rfl
  unfold adrV at had
  clear hTg hCl hAd1 hAd2 hT
  generalize (relC (ofL 2, 0, 2)).toArray = rl at *
  generalize adrV (ofL 1) = v1 at *
  generalize adrV (ofL 2) = v2 at *
  generalize adrV (ofL 5) = v5 at *
  have hnl : (⟨(hexN (ofL 1)).toArray⟩ : ByteArray).size = 42 := by kernel_rfl
  generalize hexN (ofL 1) = nm at *
  generalize adrC zAdr = zd at *
  replace hbs2 := Lib.hid hbs2
  go_enter Tryz.func10, Tryz.ntmps10
  go_upto_region 2 with (first
    | (go_at_call 33; refine (hof1.out _).mono ?_; rintro e w2 ⟨rfl, hb2⟩; first | (replace hb2 := Lib.hid (xtrans hb3.out hb2)) | (replace hb2 := Lib.hid hb2))
    | (go_at_call 23; refine (hnm.out _).mono ?_; rintro e w3 ⟨rfl, hb3⟩; replace hb3 := Lib.hid (xtrans hb2.out hb3))
    | (go_at_call 29; refine (hpa.out _ (hTt.out _ hb3.out)).mono ?_; rintro e w4 ⟨⟨pa, pc, pb, pd, rfl, hpo⟩, hb4⟩; replace hpo := Lib.hid hpo; have hs4 := hb4.size; replace hb4 := Lib.hid (xtrans hb3.out hb4))
    | (refine wpList_store_blkG rfl 27 _ _ rfl w4.heap.size rfl 27 [.int .u64 0, .slice none 0 0, .slice none 0 0] [.int .u64 0, .slice pa 1 pc, .slice pb 1 pd] (BlkG.new w4 _ _) rfl rfl (by kernel_rfl) rfl ?_; intro w5 hP5 ho5; have hb5 := ho5.below (xalloc (xrefl w4) _) (xalloc (xrefl w4) (.cells #[.int .u64 0, .slice none 0 0, .slice none 0 0] 27)).size (by rintro k rfl; exact Nat.le_refl _); replace hpo := Lib.hid (hpo.out.below hb5); have hs5 := hb5.size; replace hb5 := Lib.hid (xtrans hb4.out hb5); replace hP5 := Lib.hid hP5; clear ho5))
  clear hb2 hb3 hb4 hpa hnm
  have hT7 := Lib.hid fun W (hb : Below w5.heap.size w5 W) => hT7.out pa pc pb pd W (hpo.out.below hb)
  refine' wp_region_growL 8 [fixd (.agg #[.int .u64 0, .slice pa 1 pc, .slice pb 1 pd]), fixd (v1), fixd (.tuple #[.int .u64 2, .bool true]), fixd (.tuple #[.int .u64 2, .bool true]), fixd (.int .u64 2), fixd (.bool true), fixd (.int .u64 2), fixd (.bool true)] (by kernel_rfl) (by kernel_rfl) ?_
  simp only [List.take_succ_cons, List.take_zero, List.drop_succ_cons, List.drop_zero]
  try simp only [Act.put, List.setIfInBounds_toArray, List.set_cons_succ, List.set_cons_zero, List.nil_append, List.cons_append]
  apply wpGrowV_fix (.agg #[.int .u64 0, .slice pa 1 pc, .slice pb 1 pd]) rfl rfl
  · intro W hb hF
    rw [run_load_midV 27 _ rfl (w4.heap.size) (0) rfl ([.int .u64 0, .slice pa 1 pc, .slice pb 1 pd]) _ ((BlkG.range (hP5.out.below hb))) Tryz.underlying27 rfl (by kernel_rfl)]
    exact ⟨rfl, xrefl W⟩
  try simp only [Act.put, List.setIfInBounds_toArray, List.set_cons_succ, List.set_cons_zero, List.nil_append, List.cons_append]
  apply wpGrowV_fix (v1) rfl rfl
  · intro W hb hF
    go_simp
    go_at_call 33
    refine (hof1.out W).mono ?_
    rintro e w' ⟨rfl, hb'⟩
    exact ⟨rfl, hb'⟩
  try simp only [Act.put, List.setIfInBounds_toArray, List.set_cons_succ, List.set_cons_zero, List.nil_append, List.cons_append]
  apply wpGrowV_fix (.tuple #[.int .u64 2, .bool true]) rfl rfl
  · intro W hb hF
    go_simp
    go_at_call 11
    refine (hT7.out W hb).mono ?_
    rintro e w' ⟨rfl, hb'⟩
    exact ⟨rfl, hb'⟩
  try simp only [Act.put, List.setIfInBounds_toArray, List.set_cons_succ, List.set_cons_zero, List.nil_append, List.cons_append]
  apply wpGrowV_fix (.tuple #[.int .u64 2, .bool true]) rfl rfl
  · intro W hb hF
    go_simp
    first | exact xrefl W | exact ⟨rfl, xrefl W⟩ | exact ⟨by omega, xrefl W⟩
  try simp only [Act.put, List.setIfInBounds_toArray, List.set_cons_succ, List.set_cons_zero, List.nil_append, List.cons_append]
  apply wpGrowV_fix (.int .u64 2) rfl rfl
  · intro W hb hF
    go_simp
    first | exact xrefl W | exact ⟨rfl, xrefl W⟩ | exact ⟨by omega, xrefl W⟩
  try simp only [Act.put, List.setIfInBounds_toArray, List.set_cons_succ, List.set_cons_zero, List.nil_append, List.cons_append]
  apply wpGrowV_fix (.bool true) rfl rfl
  · intro W hb hF
    go_simp
    first | exact xrefl W | exact ⟨rfl, xrefl W⟩ | exact ⟨by omega, xrefl W⟩
  try simp only [Act.put, List.setIfInBounds_toArray, List.set_cons_succ, List.set_cons_zero, List.nil_append, List.cons_append]
  apply wpGrowV_fix (.int .u64 2) rfl rfl
  · intro W hb hF
    go_simp
    first | exact xrefl W | exact ⟨rfl, xrefl W⟩ | exact ⟨by omega, xrefl W⟩
  try simp only [Act.put, List.setIfInBounds_toArray, List.set_cons_succ, List.set_cons_zero, List.nil_append, List.cons_append]
  apply wpGrowV_fix (.bool true) rfl rfl
  · intro W hb hF
    go_simp
    first | exact xrefl W | exact ⟨rfl, xrefl W⟩ | exact ⟨by omega, xrefl W⟩
  try simp only [Act.put, List.setIfInBounds_toArray, List.set_cons_succ, List.set_cons_zero, List.nil_append, List.cons_append]
  refine wpGrowV_nil fun w6 hb6 _ => ?_
  have hP6 := Lib.hid (hP5.out.below hb6)
  replace hpo := Lib.hid (hpo.out.below hb6)
  have hs6 := hb6.size
  replace hb6 := Lib.hid (xtrans hb5.out hb6)
  go_upto_region 3 with fail
  have hT8 := Lib.hid fun W (hb : Below w6.heap.size w6 W) => hT8.out pa pc pb pd W (hpo.out.below hb)
  refine' wp_region_growL 8 [fixd (.agg #[.int .u64 0, .slice pa 1 pc, .slice pb 1 pd]), fixd (v1), fixd (.tuple #[.int .u64 0, .bool false]), fixd (.tuple #[.int .u64 0, .bool false]), fixd (.int .u64 0), fixd (.bool false), fixd (.int .u64 0), fixd (.bool false)] (by kernel_rfl) (by kernel_rfl) ?_
  simp only [List.take_succ_cons, List.take_zero, List.drop_succ_cons, List.drop_zero]
  try simp only [Act.put, List.setIfInBounds_toArray, List.set_cons_succ, List.set_cons_zero, List.nil_append, List.cons_append]
  apply wpGrowV_fix (.agg #[.int .u64 0, .slice pa 1 pc, .slice pb 1 pd]) rfl rfl
  · intro W hb hF
    rw [run_load_midV 27 _ rfl (w4.heap.size) (0) rfl ([.int .u64 0, .slice pa 1 pc, .slice pb 1 pd]) _ ((BlkG.range (hP6.out.below hb))) Tryz.underlying27 rfl (by kernel_rfl)]
    exact ⟨rfl, xrefl W⟩
  try simp only [Act.put, List.setIfInBounds_toArray, List.set_cons_succ, List.set_cons_zero, List.nil_append, List.cons_append]
  apply wpGrowV_fix (v1) rfl rfl
  · intro W hb hF
    go_simp
    go_at_call 33
    refine (hof1.out W).mono ?_
    rintro e w' ⟨rfl, hb'⟩
    exact ⟨rfl, hb'⟩
  try simp only [Act.put, List.setIfInBounds_toArray, List.set_cons_succ, List.set_cons_zero, List.nil_append, List.cons_append]
  apply wpGrowV_fix (.tuple #[.int .u64 0, .bool false]) rfl rfl
  · intro W hb hF
    go_simp
    go_at_call 11
    refine (hT8.out W hb).mono ?_
    rintro e w' ⟨rfl, hb'⟩
    exact ⟨rfl, hb'⟩
  try simp only [Act.put, List.setIfInBounds_toArray, List.set_cons_succ, List.set_cons_zero, List.nil_append, List.cons_append]
  apply wpGrowV_fix (.tuple #[.int .u64 0, .bool false]) rfl rfl
  · intro W hb hF
    go_simp
    first | exact xrefl W | exact ⟨rfl, xrefl W⟩ | exact ⟨by omega, xrefl W⟩
  try simp only [Act.put, List.setIfInBounds_toArray, List.set_cons_succ, List.set_cons_zero, List.nil_append, List.cons_append]
  apply wpGrowV_fix (.int .u64 0) rfl rfl
  · intro W hb hF
    go_simp
    first | exact xrefl W | exact ⟨rfl, xrefl W⟩ | exact ⟨by omega, xrefl W⟩
  try simp only [Act.put, List.setIfInBounds_toArray, List.set_cons_succ, List.set_cons_zero, List.nil_append, List.cons_append]
  apply wpGrowV_fix (.bool false) rfl rfl
  · intro W hb hF
    go_simp
    first | exact xrefl W | exact ⟨rfl, xrefl W⟩ | exact ⟨by omega, xrefl W⟩
  try simp only [Act.put, List.setIfInBounds_toArray, List.set_cons_succ, List.set_cons_zero, List.nil_append, List.cons_append]
  apply wpGrowV_fix (.int .u64 0) rfl rfl
  · intro W hb hF
    go_simp
    first | exact xrefl W | exact ⟨rfl, xrefl W⟩ | exact ⟨by omega, xrefl W⟩
  try simp only [Act.put, List.setIfInBounds_toArray, List.set_cons_succ, List.set_cons_zero, List.nil_append, List.cons_append]
  apply wpGrowV_fix (.bool false) rfl rfl
  · intro W hb hF
    go_simp
    first | exact xrefl W | exact ⟨rfl, xrefl W⟩ | exact ⟨by omega, xrefl W⟩
  try simp only [Act.put, List.setIfInBounds_toArray, List.set_cons_succ, List.set_cons_zero, List.nil_append, List.cons_append]
  refine wpGrowV_nil fun w7 hb7 _ => ?_
  have hP7 := Lib.hid (hP6.out.below hb7)
  replace hpo := Lib.hid (hpo.out.below hb7)
  have hs7 := hb7.size
  replace hb7 := Lib.hid (xtrans hb6.out hb7)
  go_upto_region 6 with (first
    | (go_at_call 33; refine (hof2.out _).mono ?_; rintro e w8 ⟨rfl, hb8⟩; have hs8 := hb8.size; have hP8 := Lib.hid (hP7.out.below hb8); replace hpo := Lib.hid (hpo.out.below hb8); replace hb8 := Lib.hid (xtrans hb7.out hb8))
    | (refine wpList_build rfl 67 _ rfl [(0, v2), (2, .int .u64 2)] rfl _ hbl2.out ?_)
    | (refine wpList_execR rfl (.slice (some ⟨w8.heap.size, 0, none⟩) 1 1) (w8.alloc (.cells rl 67)) (exec_bsl 25 _ rfl (.agg rl) rfl (hbs2.out w8)) ?_)
    | (refine wpList_build rfl 27 _ rfl [(2, .slice (some ⟨w8.heap.size, 0, none⟩) 1 1)] rfl _ (builtP w8.heap.size) ?_)
    | (go_at_call 14; refine (hch.out w8).mono ?_; rintro e w10 ⟨rfl, hb10⟩; have hs10 := hb10.size; have hP10 := Lib.hid (hP8.out.below hb10); replace hpo := Lib.hid (hpo.out.below hb10); replace hb10 := Lib.hid (xtrans hb8.out hb10))
    | (go_at_call 18; refine (had.out _).mono ?_; rintro e w9 ⟨rfl, hb9⟩; have hs9 := hb9.size; have hP9 := Lib.hid (hP10.out.below hb9); replace hpo := Lib.hid (hpo.out.below hb9); replace hb9 := Lib.hid (xtrans hb10.out hb9))
    | (refine wpList_store_blkG rfl 29 _ _ rfl w9.heap.size rfl 29 [.int .u8 0, .int .u8 0, .int .u8 0, .int .u8 0, .int .u8 0, .int .u8 0, .int .u8 0, .int .u8 0, .int .u8 0, .int .u8 0, .int .u8 0, .int .u8 0, .int .u8 0, .int .u8 0, .int .u8 0, .int .u8 0, .int .u8 0, .int .u8 0, .int .u8 0, .int .u8 0] zd (BlkG.new w9 _ _) rfl (by rw [hlz]; rfl) (by rw [hlz]; kernel_rfl) honez ?_; intro w11 hB11 ho11; have hb11 := ho11.below (xalloc (xrefl w9) _) (xalloc (xrefl w9) (.cells ([.int .u8 0, .int .u8 0, .int .u8 0, .int .u8 0, .int .u8 0, .int .u8 0, .int .u8 0, .int .u8 0, .int .u8 0, .int .u8 0, .int .u8 0, .int .u8 0, .int .u8 0, .int .u8 0, .int .u8 0, .int .u8 0, .int .u8 0, .int .u8 0, .int .u8 0, .int .u8 0]).toArray 29)).size (by rintro k rfl; exact Nat.le_refl _); have hs11 := hb11.size; replace hP9 := Lib.hid (hP9.out.below hb11); replace hpo := Lib.hid (hpo.out.below hb11); replace hb11 := Lib.hid (xtrans hb9.out hb11); clear ho11 hB11))
  have hC1 := Lib.hid fun W (hb : Below w11.heap.size w11 W) => hC1.out pa pc pb pd W (hpo.out.below hb)
  have hC2 := Lib.hid fun W (hb : Below w11.heap.size w11 W) => hC2.out pa pc pb pd W (hpo.out.below hb)
  clear hch had hbl2 hbs2 hT7 hT8
  refine' wp_region_growL 46 [fixd (.int .i64 0), fixd (.int .i64 0), fixd (.bool true), fixd (.bool true), fixd (.agg #[.int .u64 0, .slice pa 1 pc, .slice pb 1 pd]), fixd (v1), fixd (.int .u64 3), fixd (.bool true), fixd (.bool true), fixd (.bool true), fixd (.agg #[.int .u64 0, .slice pa 1 pc, .slice pb 1 pd]), fixd (v2), fixd (.int .u64 0), fixd (.bool true), fixd (.bool true), fixd (.bool true), fixd (.int .u64 2), fixd (.bool true), fixd (.bool true), fixd (.bool true), fixd (.bool true), fixd (.bool true), fixd (.bool true), fixd (.int .u64 0), fixd (.bool true), fixd (.bool true), fixd (.bool true), fixd (.bool false), fixd (.bool true), fixd (.bool true), fixd (.bool true), fixd (.int .i64 2), fixd (.int .i64 2), fixd (.bool true), fixd (.bool true), fixd (.bool true), fixd (.int .i64 190), fixd (.int .i64 190), fixd (.bool true), fixd (.bool true), fixd (.bool true), fixd (.agg #[.int .u64 5, .int .u64 0, .int .u64 4294967296, .int .u64 0]), fixd (v5), fixd (v5), fixd (.bool true), fixd (.bool true)] (by kernel_rfl) (by kernel_rfl) ?_
  simp only [List.take_succ_cons, List.take_zero, List.drop_succ_cons, List.drop_zero]
  try simp only [Act.put, List.setIfInBounds_toArray, List.set_cons_succ, List.set_cons_zero, List.nil_append, List.cons_append]
  apply wpGrowV_fix (.int .i64 0) rfl rfl
  · intro W hb hF
    go_simp
    first | exact xrefl W | exact ⟨rfl, xrefl W⟩ | exact ⟨by omega, xrefl W⟩
  try simp only [Act.put, List.setIfInBounds_toArray, List.set_cons_succ, List.set_cons_zero, List.nil_append, List.cons_append]
  apply wpGrowV_fix (.int .i64 0) rfl rfl
  · intro W hb hF
    go_simp
    go_at_call 13
    refine (num_anyP 0 W).mono ?_
    rintro e w' ⟨rfl, rfl⟩
    exact ⟨rfl, xrefl _⟩
  try simp only [Act.put, List.setIfInBounds_toArray, List.set_cons_succ, List.set_cons_zero, List.nil_append, List.cons_append]
  apply wpGrowV_fix (.bool true) rfl rfl
  · intro W hb hF
    go_simp
    first | exact xrefl W | exact ⟨rfl, xrefl W⟩ | exact ⟨by omega, xrefl W⟩
  try simp only [Act.put, List.setIfInBounds_toArray, List.set_cons_succ, List.set_cons_zero, List.nil_append, List.cons_append]
  apply wpGrowV_fix (.bool true) rfl rfl
  · intro W hb hF
    go_simp
    first | exact xrefl W | exact ⟨rfl, xrefl W⟩ | exact ⟨by omega, xrefl W⟩
  try simp only [Act.put, List.setIfInBounds_toArray, List.set_cons_succ, List.set_cons_zero, List.nil_append, List.cons_append]
  apply wpGrowV_fix (.agg #[.int .u64 0, .slice pa 1 pc, .slice pb 1 pd]) rfl rfl
  · intro W hb hF
    rw [run_load_midV 27 _ rfl (w4.heap.size) (0) rfl ([.int .u64 0, .slice pa 1 pc, .slice pb 1 pd]) _ ((BlkG.range (hP9.out.below hb))) Tryz.underlying27 rfl (by kernel_rfl)]
    exact ⟨rfl, xrefl W⟩
  try simp only [Act.put, List.setIfInBounds_toArray, List.set_cons_succ, List.set_cons_zero, List.nil_append, List.cons_append]
  apply wpGrowV_fix (v1) rfl rfl
  · intro W hb hF
    go_simp
    go_at_call 33
    refine (hof1.out W).mono ?_
    rintro e w' ⟨rfl, hb'⟩
    exact ⟨rfl, hb'⟩
  try simp only [Act.put, List.setIfInBounds_toArray, List.set_cons_succ, List.set_cons_zero, List.nil_append, List.cons_append]
  apply wpGrowV_fix (.int .u64 3) rfl rfl
  · intro W hb hF
    go_simp
    go_at_call 16
    refine (hC1.out W hb).mono ?_
    rintro e w' ⟨rfl, hb'⟩
    exact ⟨rfl, hb'⟩
  try simp only [Act.put, List.setIfInBounds_toArray, List.set_cons_succ, List.set_cons_zero, List.nil_append, List.cons_append]
  apply wpGrowV_fix (.bool true) rfl rfl
  · intro W hb hF
    go_simp
    first | exact xrefl W | exact ⟨rfl, xrefl W⟩ | exact ⟨by omega, xrefl W⟩
  try simp only [Act.put, List.setIfInBounds_toArray, List.set_cons_succ, List.set_cons_zero, List.nil_append, List.cons_append]
  apply wpGrowV_fix (.bool true) rfl rfl
  · intro W hb hF
    go_simp
    first | exact xrefl W | exact ⟨rfl, xrefl W⟩ | exact ⟨by omega, xrefl W⟩
  try simp only [Act.put, List.setIfInBounds_toArray, List.set_cons_succ, List.set_cons_zero, List.nil_append, List.cons_append]
  apply wpGrowV_fix (.bool true) rfl rfl
  · intro W hb hF
    go_simp
    first | exact xrefl W | exact ⟨rfl, xrefl W⟩ | exact ⟨by omega, xrefl W⟩
  try simp only [Act.put, List.setIfInBounds_toArray, List.set_cons_succ, List.set_cons_zero, List.nil_append, List.cons_append]
  apply wpGrowV_fix (.agg #[.int .u64 0, .slice pa 1 pc, .slice pb 1 pd]) rfl rfl
  · intro W hb hF
    rw [run_load_midV 27 _ rfl (w4.heap.size) (0) rfl ([.int .u64 0, .slice pa 1 pc, .slice pb 1 pd]) _ ((BlkG.range (hP9.out.below hb))) Tryz.underlying27 rfl (by kernel_rfl)]
    exact ⟨rfl, xrefl W⟩
  try simp only [Act.put, List.setIfInBounds_toArray, List.set_cons_succ, List.set_cons_zero, List.nil_append, List.cons_append]
  apply wpGrowV_fix (v2) rfl rfl
  · intro W hb hF
    go_simp
    go_at_call 33
    refine (hof2.out W).mono ?_
    rintro e w' ⟨rfl, hb'⟩
    exact ⟨rfl, hb'⟩
  try simp only [Act.put, List.setIfInBounds_toArray, List.set_cons_succ, List.set_cons_zero, List.nil_append, List.cons_append]
  apply wpGrowV_fix (.int .u64 0) rfl rfl
  · intro W hb hF
    go_simp
    go_at_call 16
    refine (hC2.out W hb).mono ?_
    rintro e w' ⟨rfl, hb'⟩
    exact ⟨rfl, hb'⟩
  try simp only [Act.put, List.setIfInBounds_toArray, List.set_cons_succ, List.set_cons_zero, List.nil_append, List.cons_append]
  apply wpGrowV_fix (.bool true) rfl rfl
  · intro W hb hF
    go_simp
    first | exact xrefl W | exact ⟨rfl, xrefl W⟩ | exact ⟨by omega, xrefl W⟩
  try simp only [Act.put, List.setIfInBounds_toArray, List.set_cons_succ, List.set_cons_zero, List.nil_append, List.cons_append]
  apply wpGrowV_fix (.bool true) rfl rfl
  · intro W hb hF
    go_simp
    first | exact xrefl W | exact ⟨rfl, xrefl W⟩ | exact ⟨by omega, xrefl W⟩
  try simp only [Act.put, List.setIfInBounds_toArray, List.set_cons_succ, List.set_cons_zero, List.nil_append, List.cons_append]
  apply wpGrowV_fix (.bool true) rfl rfl
  · intro W hb hF
    go_simp
    first | exact xrefl W | exact ⟨rfl, xrefl W⟩ | exact ⟨by omega, xrefl W⟩
  try simp only [Act.put, List.setIfInBounds_toArray, List.set_cons_succ, List.set_cons_zero, List.nil_append, List.cons_append]
  apply wpGrowV_fix (.int .u64 2) rfl rfl
  · intro W hb hF
    go_simp
    first | exact xrefl W | exact ⟨rfl, xrefl W⟩ | exact ⟨by omega, xrefl W⟩
  try simp only [Act.put, List.setIfInBounds_toArray, List.set_cons_succ, List.set_cons_zero, List.nil_append, List.cons_append]
  apply wpGrowV_fix (.bool true) rfl rfl
  · intro W hb hF
    go_simp
    first | exact xrefl W | exact ⟨rfl, xrefl W⟩ | exact ⟨by omega, xrefl W⟩
  try simp only [Act.put, List.setIfInBounds_toArray, List.set_cons_succ, List.set_cons_zero, List.nil_append, List.cons_append]
  apply wpGrowV_fix (.bool true) rfl rfl
  · intro W hb hF
    go_simp
    first | exact xrefl W | exact ⟨rfl, xrefl W⟩ | exact ⟨by omega, xrefl W⟩
  try simp only [Act.put, List.setIfInBounds_toArray, List.set_cons_succ, List.set_cons_zero, List.nil_append, List.cons_append]
  apply wpGrowV_fix (.bool true) rfl rfl
  · intro W hb hF
    go_simp
    first | exact xrefl W | exact ⟨rfl, xrefl W⟩ | exact ⟨by omega, xrefl W⟩
  try simp only [Act.put, List.setIfInBounds_toArray, List.set_cons_succ, List.set_cons_zero, List.nil_append, List.cons_append]
  apply wpGrowV_fix (.bool true) rfl rfl
  · intro W hb hF
    go_simp
    first | exact xrefl W | exact ⟨rfl, xrefl W⟩ | exact ⟨by omega, xrefl W⟩
  try simp only [Act.put, List.setIfInBounds_toArray, List.set_cons_succ, List.set_cons_zero, List.nil_append, List.cons_append]
  apply wpGrowV_fix (.bool true) rfl rfl
  · intro W hb hF
    go_simp
    first | exact xrefl W | exact ⟨rfl, xrefl W⟩ | exact ⟨by omega, xrefl W⟩
  try simp only [Act.put, List.setIfInBounds_toArray, List.set_cons_succ, List.set_cons_zero, List.nil_append, List.cons_append]
  apply wpGrowV_fix (.bool true) rfl rfl
  · intro W hb hF
    go_simp
    first | exact xrefl W | exact ⟨rfl, xrefl W⟩ | exact ⟨by omega, xrefl W⟩
  try simp only [Act.put, List.setIfInBounds_toArray, List.set_cons_succ, List.set_cons_zero, List.nil_append, List.cons_append]
  apply wpGrowV_fix (.int .u64 0) rfl rfl
  · intro W hb hF
    go_simp
    first | exact xrefl W | exact ⟨rfl, xrefl W⟩ | exact ⟨by omega, xrefl W⟩
  try simp only [Act.put, List.setIfInBounds_toArray, List.set_cons_succ, List.set_cons_zero, List.nil_append, List.cons_append]
  apply wpGrowV_fix (.bool true) rfl rfl
  · intro W hb hF
    go_simp
    first | exact xrefl W | exact ⟨rfl, xrefl W⟩ | exact ⟨by omega, xrefl W⟩
  try simp only [Act.put, List.setIfInBounds_toArray, List.set_cons_succ, List.set_cons_zero, List.nil_append, List.cons_append]
  apply wpGrowV_fix (.bool true) rfl rfl
  · intro W hb hF
    go_simp
    first | exact xrefl W | exact ⟨rfl, xrefl W⟩ | exact ⟨by omega, xrefl W⟩
  try simp only [Act.put, List.setIfInBounds_toArray, List.set_cons_succ, List.set_cons_zero, List.nil_append, List.cons_append]
  apply wpGrowV_fix (.bool true) rfl rfl
  · intro W hb hF
    go_simp
    first | exact xrefl W | exact ⟨rfl, xrefl W⟩ | exact ⟨by omega, xrefl W⟩
  try simp only [Act.put, List.setIfInBounds_toArray, List.set_cons_succ, List.set_cons_zero, List.nil_append, List.cons_append]
  apply wpGrowV_fix (.bool false) rfl rfl
  · intro W hb hF
    go_simp
    first | exact xrefl W | exact ⟨rfl, xrefl W⟩ | exact ⟨by omega, xrefl W⟩
  try simp only [Act.put, List.setIfInBounds_toArray, List.set_cons_succ, List.set_cons_zero, List.nil_append, List.cons_append]
  apply wpGrowV_fix (.bool true) rfl rfl
  · intro W hb hF
    go_simp
    first | exact xrefl W | exact ⟨rfl, xrefl W⟩ | exact ⟨by omega, xrefl W⟩
  try simp only [Act.put, List.setIfInBounds_toArray, List.set_cons_succ, List.set_cons_zero, List.nil_append, List.cons_append]
  apply wpGrowV_fix (.bool true) rfl rfl
  · intro W hb hF
    go_simp
    first | exact xrefl W | exact ⟨rfl, xrefl W⟩ | exact ⟨by omega, xrefl W⟩
  try simp only [Act.put, List.setIfInBounds_toArray, List.set_cons_succ, List.set_cons_zero, List.nil_append, List.cons_append]
  apply wpGrowV_fix (.bool true) rfl rfl
  · intro W hb hF
    go_simp
    first | exact xrefl W | exact ⟨rfl, xrefl W⟩ | exact ⟨by omega, xrefl W⟩
  try simp only [Act.put, List.setIfInBounds_toArray, List.set_cons_succ, List.set_cons_zero, List.nil_append, List.cons_append]
  apply wpGrowV_fix (.int .i64 2) rfl rfl
  · intro W hb hF
    go_simp
    first | exact xrefl W | exact ⟨rfl, xrefl W⟩ | exact ⟨by omega, xrefl W⟩
  try simp only [Act.put, List.setIfInBounds_toArray, List.set_cons_succ, List.set_cons_zero, List.nil_append, List.cons_append]
  apply wpGrowV_fix (.int .i64 2) rfl rfl
  · intro W hb hF
    go_simp
    go_at_call 13
    refine (num_anyP 2 W).mono ?_
    rintro e w' ⟨rfl, rfl⟩
    exact ⟨rfl, xrefl _⟩
  try simp only [Act.put, List.setIfInBounds_toArray, List.set_cons_succ, List.set_cons_zero, List.nil_append, List.cons_append]
  apply wpGrowV_fix (.bool true) rfl rfl
  · intro W hb hF
    go_simp
    first | exact xrefl W | exact ⟨rfl, xrefl W⟩ | exact ⟨by omega, xrefl W⟩
  try simp only [Act.put, List.setIfInBounds_toArray, List.set_cons_succ, List.set_cons_zero, List.nil_append, List.cons_append]
  apply wpGrowV_fix (.bool true) rfl rfl
  · intro W hb hF
    go_simp
    first | exact xrefl W | exact ⟨rfl, xrefl W⟩ | exact ⟨by omega, xrefl W⟩
  try simp only [Act.put, List.setIfInBounds_toArray, List.set_cons_succ, List.set_cons_zero, List.nil_append, List.cons_append]
  apply wpGrowV_fix (.bool true) rfl rfl
  · intro W hb hF
    go_simp
    first | exact xrefl W | exact ⟨rfl, xrefl W⟩ | exact ⟨by omega, xrefl W⟩
  try simp only [Act.put, List.setIfInBounds_toArray, List.set_cons_succ, List.set_cons_zero, List.nil_append, List.cons_append]
  apply wpGrowV_fix (.int .i64 190) rfl rfl
  · intro W hb hF
    go_simp
    first | exact xrefl W | exact ⟨rfl, xrefl W⟩ | exact ⟨by omega, xrefl W⟩
  try simp only [Act.put, List.setIfInBounds_toArray, List.set_cons_succ, List.set_cons_zero, List.nil_append, List.cons_append]
  apply wpGrowV_fix (.int .i64 190) rfl rfl
  · intro W hb hF
    go_simp
    go_at_call 13
    refine (num_anyP 190 W).mono ?_
    rintro e w' ⟨rfl, rfl⟩
    exact ⟨rfl, xrefl _⟩
  try simp only [Act.put, List.setIfInBounds_toArray, List.set_cons_succ, List.set_cons_zero, List.nil_append, List.cons_append]
  apply wpGrowV_fix (.bool true) rfl rfl
  · intro W hb hF
    go_simp
    first | exact xrefl W | exact ⟨rfl, xrefl W⟩ | exact ⟨by omega, xrefl W⟩
  try simp only [Act.put, List.setIfInBounds_toArray, List.set_cons_succ, List.set_cons_zero, List.nil_append, List.cons_append]
  apply wpGrowV_fix (.bool true) rfl rfl
  · intro W hb hF
    go_simp
    first | exact xrefl W | exact ⟨rfl, xrefl W⟩ | exact ⟨by omega, xrefl W⟩
  try simp only [Act.put, List.setIfInBounds_toArray, List.set_cons_succ, List.set_cons_zero, List.nil_append, List.cons_append]
  apply wpGrowV_fix (.bool true) rfl rfl
  · intro W hb hF
    go_simp
    first | exact xrefl W | exact ⟨rfl, xrefl W⟩ | exact ⟨by omega, xrefl W⟩
  try simp only [Act.put, List.setIfInBounds_toArray, List.set_cons_succ, List.set_cons_zero, List.nil_append, List.cons_append]
  apply wpGrowV_fix (.agg #[.int .u64 5, .int .u64 0, .int .u64 4294967296, .int .u64 0]) rfl rfl
  · intro W hb hF
    exact grows_okP (by kernel_rfl) (xrefl W)
  try simp only [Act.put, List.setIfInBounds_toArray, List.set_cons_succ, List.set_cons_zero, List.nil_append, List.cons_append]
  apply wpGrowV_fix (v5) rfl rfl
  · intro W hb hF
    go_simp
    go_at_call 26
    refine (hOf.out W).mono ?_
    rintro e w' ⟨rfl, hb'⟩
    exact ⟨rfl, hb'⟩
  try simp only [Act.put, List.setIfInBounds_toArray, List.set_cons_succ, List.set_cons_zero, List.nil_append, List.cons_append]
  apply wpGrowV_fix (v5) rfl rfl
  · intro W hb hF
    go_simp
    go_at_call 33
    refine (hof5.out W).mono ?_
    rintro e w' ⟨rfl, hb'⟩
    exact ⟨rfl, hb'⟩
  try simp only [Act.put, List.setIfInBounds_toArray, List.set_cons_succ, List.set_cons_zero, List.nil_append, List.cons_append]
  apply wpGrowV_fix (.bool true) rfl rfl
  · intro W hb hF
    exact grows_okP (heq5.out W _ _ rfl rfl rfl) (xrefl W)
  try simp only [Act.put, List.setIfInBounds_toArray, List.set_cons_succ, List.set_cons_zero, List.nil_append, List.cons_append]
  apply wpGrowV_fix (.bool true) rfl rfl
  · intro W hb hF
    go_simp
    first | exact xrefl W | exact ⟨rfl, xrefl W⟩ | exact ⟨by omega, xrefl W⟩
  try simp only [Act.put, List.setIfInBounds_toArray, List.set_cons_succ, List.set_cons_zero, List.nil_append, List.cons_append]
  refine wpGrowV_nil fun w12 hb12 _ => ?_
  replace hb12 := Lib.hid (xtrans hb11.out hb12)
  go_wp2
  go_ret
  exact ⟨rfl, hb12.out⟩
end Go.Proofs.YthpallkphamobaaGreatDoor
namespace Go.Proofs.YthpallkphamobaaGreatDoor
open Go.RowKit Go.Shelf

def dS (d : BitVec 64) : List UInt8 := Lib.join (lineD d) [32]
def cS (x : List Nat × BitVec 64) : List UInt8 := Lib.join (lineC x) [32]
def rS (x : List Nat × Nat × BitVec 64) : List UInt8 := Lib.join (lineR x) [32]
theorem linesF_eq (p : PolN) : linesF p = dS p.dflt :: (p.clears.map cS ++ p.rels.map rS) := by
  unfold linesF wordsF dS
  rw [List.map_cons, List.map_append, List.map_map, List.map_map]
  rfl
theorem textL_len (a : BitVec 64) : (textL a).length ≤ 1000 := by
  unfold textL
  by_cases h : memL a = []
  · rw [if_pos h]; simp
  · rw [if_neg h]
    have := joinAll_len a
    omega
/-- A new row of strings. -/
def strT (ss : List (List UInt8)) (n : Nat) : Told := ⟨fun v => ∃ b : Nat, v = .slice (some ⟨b, 0, none⟩) n n, fun v W => ∀ b : Nat, v = .slice (some ⟨b, 0, none⟩) n n → RowV W (some ⟨b, 0, none⟩) (ss.map strL) ∧ b < W.heap.size, ⟨_, 0, rfl⟩,
  fun v W W' h hb b e => ⟨(h b e).1.below hb, Nat.lt_of_lt_of_le (h b e).2 hb.size⟩⟩
end Go.Proofs.YthpallkphamobaaGreatDoor
