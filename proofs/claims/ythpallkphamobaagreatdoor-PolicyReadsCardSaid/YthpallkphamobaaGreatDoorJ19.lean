/- Texts of this claim, merged; no condition. -/
import Derived.Test.YthpallkphamobaaGreatDoorJ18
set_option linter.all false
namespace Go.Proofs.YthpallkphamobaaGreatDoor
open Go.RowKit Go.Shelf

/-- Memory ahead of block g is as it was, and so are the blocks of strings. -/
structure BelowS (g : Nat) (w w' : World) : Prop where
  b : Below g w w'
  s : ∀ k, StrB w k → w'.heap[k]? = w.heap[k]?
theorem BelowS.size {g : Nat} {w w' : World} (h : BelowS g w w') : w.heap.size ≤ w'.heap.size := h.b.size
theorem BelowS.refl (g : Nat) (w : World) : BelowS g w w := ⟨Below.refl _ _, fun _ _ => rfl⟩
theorem StrB.to {w w' : World} {k : Nat} (h : StrB w k) (e : w'.heap[k]? = w.heap[k]?) : StrB w' k := by
  obtain ⟨cs, h⟩ := h
  exact ⟨cs, e.trans h⟩
theorem StrB.lt {w : World} {k : Nat} (h : StrB w k) : k < w.heap.size := by
  obtain ⟨cs, h⟩ := h
  exact (Array.getElem?_eq_some_iff.1 h).1
theorem BelowS.trans {g : Nat} {w w2 w3 : World} (h : BelowS g w w2) (h2 : BelowS g w2 w3) : BelowS g w w3 := ⟨h.b.trans h2.b, fun k hk => (h2.s k (hk.to (h.s k hk))).trans (h.s k hk)⟩
theorem below_onlyO {O : Nat → Prop} {g : Nat} {w w2 w3 : World} (hb : BelowS g w w2) (ho : Only O w2 w3) (hg : g ≤ w2.heap.size) (hO : ∀ k, O k → g ≤ k) (hs : ∀ k, StrB w2 k → ¬ O k) : BelowS g w w3 :=
  ⟨ho.below hb.b hg hO, fun k hk => by
    have h2 := hk.to (hb.s k hk)
    exact (ho.same k h2.lt (hs k h2)).trans (hb.s k hk)⟩
theorem below_only {g : Nat} {w w2 w3 : World} (hb : BelowS g w w2) (ho : OnlyG g w2 w3) (hg : g ≤ w2.heap.size) (hO : ∀ k, k = g → g ≤ k) : BelowS g w w3 := below_onlyO hb ho.o hg hO ho.s
theorem below_to {g : Nat} {w w2 w3 : World} (hb : BelowS g w w2) (h : Below w2.heap.size w2 w3) (hg : g ≤ w2.heap.size) : BelowS g w w3 :=
  ⟨hb.b.trans ⟨h.os, h.tape, h.output, h.size, fun k hk => h.block k (Nat.lt_of_lt_of_le hk hg)⟩, fun k hk => (h.block k (hk.to (hb.s k hk)).lt).trans (hb.s k hk)⟩
/-- How a rule's reading ends. -/
def RdPost (g : Nat) (o : Option (PolN × List (List UInt8))) (w : World) (e : Ending) (w' : World) : Prop := (o = none → e = .panicked (errP 190)) ∧ (∀ q r, o = some (q, r) → e = .returned (.tuple #[]) ∧ RdE w' g q r.length) ∧ BelowS g w w'
theorem RdPost.bad {g : Nat} {o : Option (PolN × List (List UInt8))} {w w' : World} (h : o = none) (hb : BelowS g w w') : RdPost g o w (.panicked (errP 190)) w' := ⟨fun _ => rfl, fun q r e => (by rw [h] at e; cases e), hb⟩
theorem RdPost.good {g : Nat} {o : Option (PolN × List (List UInt8))} {w w' : World} {q : PolN} {r : List (List UInt8)} (h : o = some (q, r)) (hE : RdE w' g q r.length) (hb : BelowS g w w') : RdPost g o w (.returned (.tuple #[])) w' :=
  ⟨fun e => (by rw [h] at e; cases e), fun q' r' e => by rw [h] at e; cases e; exact ⟨rfl, hE⟩, hb⟩
theorem infoC : (Tryz.prog.info? 65).map (fun i => (i.zero, i.size, i.bytes)) = some (some (.agg (clearC (zAdr, 0)).toArray), 21, 32) := by kernel_rfl
theorem infoR : (Tryz.prog.info? 67).map (fun i => (i.zero, i.size, i.bytes)) = some (some (.agg (relC (zAdr, 0, 0)).toArray), 22, 32) := by kernel_rfl
set_option maxRecDepth 100000 in
set_option maxHeartbeats 16000000 in
theorem reads1_any (g : Nat) (p : PolN) (vc vr : Value) (ws : List (List UInt8)) (w : World) (hS : RdS w g p vc vr ws) (hT : TabP w) (hg : 8 ≤ g) (hw : ∀ x ∈ ws, x.length ≤ 65536) (hl : p.clears.length ≤ 100000) :
    Calls Tryz.prog 121 #[.pointer (some ⟨g, 0, none⟩)] w (RdPost g (takeC p ws) w) := by
  obtain ⟨ac, cc, rfl⟩ := own_sliceV hS.oc
  obtain ⟨ar, cr, rfl⟩ := own_sliceV hS.ow
  obtain ⟨al, cl, hB, -⟩ := hS.wd.out
  have c3 := hB.cell 3 (by simp [rdC])
  simp only [rdC, List.getElem_cons_succ, List.getElem_cons_zero] at c3
  have hmt := Lib.hid fun W => must_true 190 W
  have hmf := Lib.hid fun W => must_false 190 W
  have hgl := hS.lt
  have hgg : BelowS g w w := BelowS.refl _ _
  by_cases hr : p.rels = []
  · have hrl : p.rels.length = 0 := by rw [hr]; rfl
    rw [hrl] at c3
    cases ws with
    | nil =>
      have hbad : Hid (∀ W, BelowS g w W → RdPost g (takeC p []) w (.panicked (errP 190)) W) := Lib.hid fun W hb => RdPost.bad (by unfold takeC; simp) hb
      have htk := Lib.hid (take_none g _ _ _ w hS.wd)
      clear hB hS hT hw
      go_enter Tryz.func121, Tryz.ntmps121
      go_wp2_with (first
        | (go_at_call 59; refine (hmt.out _).mono ?_; rintro e w2 ⟨rfl, rfl⟩)
        | (go_at_call 97; refine htk.out.mono ?_; rintro e w2 ⟨rfl, rfl⟩))
      exact ⟨rfl, hbad.out _ hgg⟩
    | cons a r1 =>
      have htk := Lib.hid (take_one g _ _ _ a r1 w hS.wd)
      have hal : a.length ≤ 4194304 := by have := hw a (by simp); omega
      cases ha : addrF a with
      | none =>
        have hbad : Hid (∀ W, BelowS g w W → RdPost g (takeC p (a :: r1)) w (.panicked (errP 190)) W) := Lib.hid fun W hb => RdPost.bad (by unfold takeC; rw [if_pos hr]; cases r1 <;> simp [ha]) hb
        have had := Lib.hid fun W => address_no a W hal ha
        have hgo := Lib.hid fun W => gotA_no (adrC zAdr).toArray W
        rw [hrl] at htk
        unfold adrV at had
        clear hB hS hT hw ha
        generalize (adrC zAdr).toArray = zv at *
        go_enter Tryz.func121, Tryz.ntmps121
        go_wp2_with (first
          | (go_at_call 59; refine (hmt.out _).mono ?_; rintro e w2 ⟨rfl, rfl⟩)
          | (go_at_call 97; refine htk.out.mono ?_; rintro e w2 ⟨rfl, hW2, ho2⟩; have hs2 := ho2.size; replace ho2 := Lib.hid (below_only hgg ho2 (by omega) (by rintro k rfl; exact Nat.le_refl _)); clear hW2)
          | (go_at_call 18; refine (had.out _).mono ?_; rintro e w3 ⟨rfl, hb3⟩; replace hb3 := Lib.hid (below_to ho2.out hb3 (by omega)))
          | (go_at_call 122; refine (hgo.out _).mono ?_; rintro e w4 ⟨rfl, hb4⟩; have hs4 := hb4.size; have hs3 := ho2.out.size; replace hb4 := Lib.hid (below_to hb3.out hb4 (by have := hb3.out.size; omega))))
        exact ⟨rfl, hbad.out _ hb4.out⟩
      | some b =>
        obtain ⟨-, hb256, hb20⟩ := addr_some ha
        have had := Lib.hid fun W => address_ok a b W hal ha
        have hgo := Lib.hid fun W => gotA_ok b hb20 W
        have hA20 : (adrC b).length = 20 := by rw [adrC_len, hb20]
        have hone20 : (adrC b).all (·.oneCell') = true := by simp [adrC, Value.oneCell']
        have hSt : Hid (∀ W2, WdAt W2 g p.dflt (.slice ac p.clears.length cc) (.slice ar p.rels.length cr) r1 → OnlyG g w W2 → RdS W2 g p (.slice ac p.clears.length cc) (.slice ar p.rels.length cr) r1) := Lib.hid fun W2 h1 h2 => hS.took h1 h2
        have hTt : Hid (∀ W2, BelowS g w W2 → TabP W2) := Lib.hid fun W2 h => hT.belowG h.b hg
        unfold adrV at had hgo
        rw [hrl] at htk hSt
        obtain ⟨nc, hnc⟩ : ∃ n, n = p.clears.length := ⟨_, rfl⟩
        rw [← hnc] at htk hSt hl
        obtain ⟨xs, hxs⟩ : ∃ xs, xs = p.clears.flatMap clearC := ⟨_, rfl⟩
        replace hnc := Lib.hid hnc
        replace hxs := Lib.hid hxs
        clear hB hS hT
        go_enter Tryz.func121, Tryz.ntmps121
        go_upto_region 2 with (first
          | (go_at_call 59; refine (hmt.out _).mono ?_; rintro e w2 ⟨rfl, rfl⟩)
          | (go_at_call 97; refine htk.out.mono ?_; rintro e w2 ⟨rfl, hW2, ho2⟩; have hs2 := ho2.size; have hR2 := Lib.hid (hSt.out _ hW2 ho2); replace ho2 := Lib.hid (below_only hgg ho2 (by omega) (by rintro k rfl; exact Nat.le_refl _)); clear hW2)
          | (go_at_call 18; refine (had.out _).mono ?_; rintro e w3 ⟨rfl, hb3⟩; have hs3 := hb3.size; have hR3 := Lib.hid (hR2.out.below hb3); replace hb3 := Lib.hid (below_to ho2.out hb3 (by omega)))
          | (go_at_call 122; refine (hgo.out _).mono ?_; rintro e w4 ⟨rfl, hb4⟩; have hs4 := hb4.size; replace hR3 := Lib.hid (hR3.out.below hb4); replace hb3 := Lib.hid (below_to hb3.out hb4 (by omega)))
          | (refine wpList_store_blkG rfl 29 _ _ rfl w4.heap.size rfl 29 [.int .u8 0, .int .u8 0, .int .u8 0, .int .u8 0, .int .u8 0, .int .u8 0, .int .u8 0, .int .u8 0, .int .u8 0, .int .u8 0, .int .u8 0, .int .u8 0, .int .u8 0, .int .u8 0, .int .u8 0, .int .u8 0, .int .u8 0, .int .u8 0, .int .u8 0, .int .u8 0] (adrC b) (BlkG.new w4 _ _) rfl (by rw [hA20]; rfl) (by rw [hA20]; kernel_rfl) hone20 ?_; intro w5 hB5 ho5; have hb5 := ho5.below (xalloc (xrefl w4) _) (xalloc (xrefl w4) (.cells ([.int .u8 0, .int .u8 0, .int .u8 0, .int .u8 0, .int .u8 0, .int .u8 0, .int .u8 0, .int .u8 0, .int .u8 0, .int .u8 0, .int .u8 0, .int .u8 0, .int .u8 0, .int .u8 0, .int .u8 0, .int .u8 0, .int .u8 0, .int .u8 0, .int .u8 0, .int .u8 0]).toArray 29)).size (by rintro k rfl; exact Nat.le_refl _); have hs5 := hb5.size; have hR5 := Lib.hid (hR3.out.below hb5); replace hb5 := Lib.hid (below_to hb3.out hb5 (by omega)); clear ho5))
        have hg5 : g < w5.heap.size := by omega
        have hT5 := Lib.hid (hTt.out _ hb5.out)
        obtain ⟨h, hh⟩ : ∃ h, h = w4.heap.size := ⟨_, rfl⟩
        rw [← hh] at hB5 ⊢
        have hgh : h ≠ g := by omega
        have hocn : w5.ownsRow g 65 21 (.slice ac nc cc) nc xs := by have := hR5.out.oc; rw [← hnc.out, ← hxs.out] at this; exact this
        have hoch : (Value.slice ac nc cc).ownBlock ≠ some h := fun e => by have hlt := (ownB_lt hR3.out.oc e).2; omega
        have hlo : ∀ k, (k = g ∨ (Value.slice ac nc cc).ownBlock = some k) → g ≤ k := fun k e => by
          rcases e with rfl | e
          · exact Nat.le_refl _
          · exact (ownB_lt hocn e).1
        have hstr : ∀ k, StrB w5 k → ¬ (k = g ∨ (Value.slice ac nc cc).ownBlock = some k) := fun k hk e => by
          rcases e with e | e
          · obtain ⟨_, _, h1, -⟩ := hR5.out.wd.out
            exact hk.ne h1 (by decide) e
          · exact hk.own hocn (by decide) e
        have hAk : Hid (∀ ys W, StyO g 65 21 (.slice ac nc cc) nc xs ys w5 W → BlkG W h 29 (adrC b)) := Lib.hid fun ys W hs => hB5.only hs.1 (fun e => e.elim hgh hoch)
        have hbS : Hid (∀ ys W, StyO g 65 21 (.slice ac nc cc) nc xs ys w5 W → BelowS g w W) := Lib.hid fun ys W hs => below_onlyO hb5.out hs.1 (by omega) hlo hstr
        have hTk : Hid (∀ ys W, StyO g 65 21 (.slice ac nc cc) nc xs ys w5 W → Tab W) := Lib.hid fun ys W hs => (hT5.out.only hs.1 fun k hk => Nat.le_trans hg (hlo k hk)).tab
        have hoc0 : Hid (∀ ys W, StyO g 65 21 (.slice ac nc cc) nc xs ys w5 W → W.ownsRow g 65 21 (.slice ac nc cc) nc xs) := Lib.hid fun ys W hs => hs.2.1 hocn
        have hw2 := Lib.hid hR5.out.wd
        have hvr := Lib.hid hR5.out.ow
        have hok := Lib.hid hR5.out.ok
        rw [hrl] at hvr
        generalize hvrr : Value.slice ar 0 cr = vr at *
        clear hR5 hR3 hR2 hB5 hocn hoch hTt hSt
        cases r1 with
        | nil =>
          have hbad : Hid (∀ W, BelowS g w W → RdPost g (takeC p [a]) w (.panicked (errP 190)) W) := Lib.hid fun W hb => RdPost.bad (by unfold takeC; rw [if_pos hr]) hb
          obtain ⟨ys, hys⟩ : ∃ ys : List Value, Hid (ys = []) := ⟨_, Lib.hid rfl⟩
          replace hAk := Lib.hid (hAk.out ys)
          replace hbS := Lib.hid (hbS.out ys)
          have hcl : Hid (∀ (b : Bool) W, WdAt W g p.dflt (.slice ac nc cc) vr [] → W.cell? ⟨g, 2, none⟩ = some (.slice ac nc cc)) := Lib.hid fun _ W h => by
            obtain ⟨_, _, h1, -⟩ := h.out
            have := h1.cell 2 (by simp [rdC])
            simpa [rdC] using this
          refine' wp_region_growSR (goesO g 65 21 (.slice ac nc cc) nc xs ys (fun _ W => Hid (WdAt W g p.dflt (.slice ac nc cc) vr [])) (fun ch W' => ch = errP 190 ∧ BelowS g w W') 10 (fun _ _ _ h hb => Lib.hid (h.out.below hb))) 18 [fixdS (.pointer (some ⟨g, 0, none⟩)), fixdS (.pointer (some ⟨g, 0, none⟩)), fixdS (.pointer (some ⟨g, 0, none⟩)), fixdS (.pointer (some ⟨g, 1, none⟩)), fixdS (.pointer (some ⟨g, 2, none⟩)), fixdS (.slice ac nc cc), fixdS (.agg (adrC b).toArray), fixdS (.pointer (some ⟨g, 0, none⟩)), fixdS (.pointer (some ⟨g, 0, none⟩)), fixdS (.pointer (some ⟨g, 0, none⟩)), neverT, neverT, neverT, neverT, neverT, neverT, neverT, neverT] (by kernel_rfl) (by kernel_rfl) (Lib.hid hw2.out) (fun x ch W hd h => ?_) ?_
          rotate_left 1
          simp only [List.take_succ_cons, List.take_zero, List.drop_succ_cons, List.drop_zero]
          try simp only [Act.put, List.setIfInBounds_toArray, List.set_cons_succ, List.set_cons_zero, List.nil_append, List.cons_append]
          apply wpGrowS_fix (.pointer (some ⟨g, 0, none⟩)) rfl rfl rfl
          · intro bq W hS hb hF
            go_simp
            first | exact xrefl W | exact ⟨rfl, xrefl W⟩
          try simp only [Act.put, List.setIfInBounds_toArray, List.set_cons_succ, List.set_cons_zero, List.nil_append, List.cons_append]
          apply wpGrowS_fix (.pointer (some ⟨g, 0, none⟩)) rfl rfl rfl
          · intro bq W hS hb hF
            go_simp
            first | exact xrefl W | exact ⟨rfl, xrefl W⟩
          try simp only [Act.put, List.setIfInBounds_toArray, List.set_cons_succ, List.set_cons_zero, List.nil_append, List.cons_append]
          apply wpGrowS_fix (.pointer (some ⟨g, 0, none⟩)) rfl rfl rfl
          · intro bq W hS hb hF
            go_simp
            first | exact xrefl W | exact ⟨rfl, xrefl W⟩
          try simp only [Act.put, List.setIfInBounds_toArray, List.set_cons_succ, List.set_cons_zero, List.nil_append, List.cons_append]
          apply wpGrowS_fix (.pointer (some ⟨g, 1, none⟩)) rfl rfl rfl
          · intro bq W hS hb hF
            go_simp
            first | exact xrefl W | exact ⟨rfl, xrefl W⟩
          try simp only [Act.put, List.setIfInBounds_toArray, List.set_cons_succ, List.set_cons_zero, List.nil_append, List.cons_append]
          apply wpGrowS_fix (.pointer (some ⟨g, 2, none⟩)) rfl rfl rfl
          · intro bq W hS hb hF
            go_simp
            first | exact xrefl W | exact ⟨rfl, xrefl W⟩
          try simp only [Act.put, List.setIfInBounds_toArray, List.set_cons_succ, List.set_cons_zero, List.nil_append, List.cons_append]
          apply wpGrowS_fix (.slice ac nc cc) rfl rfl rfl
          · intro bq W hS hb hF
            have c := (hcl.out bq W hS.out)
            go_simp
            first | exact xrefl W | exact ⟨rfl, xrefl W⟩
          try simp only [Act.put, List.setIfInBounds_toArray, List.set_cons_succ, List.set_cons_zero, List.nil_append, List.cons_append]
          apply wpGrowS_fix (.agg (adrC b).toArray) rfl rfl rfl
          · intro bq W hS hb hF
            rw [exec_load_blkG 29 _ rfl _ rfl 29 _ _ (hAk.out W hb) Tryz.underlying29 rfl (by rw [hA20]; kernel_rfl)]
            exact ⟨rfl, xrefl W⟩
          try simp only [Act.put, List.setIfInBounds_toArray, List.set_cons_succ, List.set_cons_zero, List.nil_append, List.cons_append]
          apply wpGrowS_fix (.pointer (some ⟨g, 0, none⟩)) rfl rfl rfl
          · intro bq W hS hb hF
            go_simp
            first | exact xrefl W | exact ⟨rfl, xrefl W⟩
          try simp only [Act.put, List.setIfInBounds_toArray, List.set_cons_succ, List.set_cons_zero, List.nil_append, List.cons_append]
          apply wpGrowS_fix (.pointer (some ⟨g, 0, none⟩)) rfl rfl rfl
          · intro bq W hS hb hF
            go_simp
            first | exact xrefl W | exact ⟨rfl, xrefl W⟩
          try simp only [Act.put, List.setIfInBounds_toArray, List.set_cons_succ, List.set_cons_zero, List.nil_append, List.cons_append]
          apply wpGrowS_fix (.pointer (some ⟨g, 0, none⟩)) rfl rfl rfl
          · intro bq W hS hb hF
            go_simp
            first | exact xrefl W | exact ⟨rfl, xrefl W⟩
          try simp only [Act.put, List.setIfInBounds_toArray, List.set_cons_succ, List.set_cons_zero, List.nil_append, List.cons_append]
          refine wpGrowS_any neverT rfl rfl (fun bq W hk0 hS hb hF => ?_) (fun v hv => ?_)
          · go_simp
            go_at_call 97
            refine (take_none g _ _ _ W hS.out).mono ?_
            rintro e w' ⟨rfl, rfl⟩
            exact .inr ⟨_, rfl, rfl, hbS.out W hb⟩
          obtain rfl : v = undef := hv
          try simp only [Act.put, List.setIfInBounds_toArray, List.set_cons_succ, List.set_cons_zero, List.nil_append, List.cons_append]
          refine wpGrowS_any neverT rfl rfl (fun bq W hk0 hS hb hF => ?_) (fun v hv => ?_)
          · exact (hF 10 (by kernel_rfl) (by simp)).elim
          obtain rfl : v = undef := hv
          try simp only [Act.put, List.setIfInBounds_toArray, List.set_cons_succ, List.set_cons_zero, List.nil_append, List.cons_append]
          refine wpGrowS_any neverT rfl rfl (fun bq W hk0 hS hb hF => ?_) (fun v hv => ?_)
          · exact (hF 11 (by kernel_rfl) (by simp)).elim
          obtain rfl : v = undef := hv
          try simp only [Act.put, List.setIfInBounds_toArray, List.set_cons_succ, List.set_cons_zero, List.nil_append, List.cons_append]
          refine wpGrowS_any neverT rfl rfl (fun bq W hk0 hS hb hF => ?_) (fun v hv => ?_)
          · exact (hF 11 (by kernel_rfl) (by simp)).elim
          obtain rfl : v = undef := hv
          try simp only [Act.put, List.setIfInBounds_toArray, List.set_cons_succ, List.set_cons_zero, List.nil_append, List.cons_append]
          refine wpGrowS_any neverT rfl rfl (fun bq W hk0 hS hb hF => ?_) (fun v hv => ?_)
          · exact (hF 12 (by kernel_rfl) (by simp)).elim
          obtain rfl : v = undef := hv
          try simp only [Act.put, List.setIfInBounds_toArray, List.set_cons_succ, List.set_cons_zero, List.nil_append, List.cons_append]
          refine wpGrowS_any neverT rfl rfl (fun bq W hk0 hS hb hF => ?_) (fun v hv => ?_)
          · exact (hF 14 (by kernel_rfl) (by simp)).elim
          obtain rfl : v = undef := hv
          try simp only [Act.put, List.setIfInBounds_toArray, List.set_cons_succ, List.set_cons_zero, List.nil_append, List.cons_append]
          refine wpGrowS_any neverT rfl rfl (fun bq W hk0 hS hb hF => ?_) (fun v hv => ?_)
          · exact (hF 15 (by kernel_rfl) (by simp)).elim
          obtain rfl : v = undef := hv
          try simp only [Act.put, List.setIfInBounds_toArray, List.set_cons_succ, List.set_cons_zero, List.nil_append, List.cons_append]
          refine wpGrowS_any neverT rfl rfl (fun bq W hk0 hS hb hF => ?_) (fun v hv => ?_)
          · exact (hF 16 (by kernel_rfl) (by simp)).elim
          obtain rfl : v = undef := hv
          try simp only [Act.put, List.setIfInBounds_toArray, List.set_cons_succ, List.set_cons_zero, List.nil_append, List.cons_append]
          · refine wpGrowS_nil fun W' _ _ hmem => (hmem 10 (by decide)).elim
          obtain ⟨rfl, hb'⟩ := h
          exact ⟨hd.1, hbad.out _ hb'⟩
        | cons x r2 =>
          have hxl : x.length ≤ 65536 := hw x (by simp)
          have hcl : Hid (∀ (b : Bool) W, WdAt W g p.dflt (.slice ac nc cc) vr (cond b r2 (x :: r2)) → W.cell? ⟨g, 2, none⟩ = some (.slice ac nc cc)) := Lib.hid fun _ W h => by
            obtain ⟨_, _, h1, -⟩ := h.out
            have := h1.cell 2 (by simp [rdC])
            simpa [rdC] using this
          cases hd : parseP x with
          | none =>
            have hbad : Hid (∀ W, BelowS g w W → RdPost g (takeC p (a :: x :: r2)) w (.panicked (errP 190)) W) := Lib.hid fun W hb => RdPost.bad (by unfold takeC; rw [if_pos hr]; simp [ha, hd]) hb
            have hlab := Lib.hid fun W hT => label_no x W hxl hT hd
            obtain ⟨ys, hys⟩ : ∃ ys : List Value, Hid (ys = []) := ⟨_, Lib.hid rfl⟩
            replace hAk := Lib.hid (hAk.out ys)
            replace hbS := Lib.hid (hbS.out ys)
            replace hTk := Lib.hid (hTk.out ys)
            refine' wp_region_growSR (goesO g 65 21 (.slice ac nc cc) nc xs ys (fun b W => Hid (WdAt W g p.dflt (.slice ac nc cc) vr (cond b r2 (x :: r2)))) (fun ch W' => ch = errP 190 ∧ BelowS g w W') 10 (fun _ _ _ h hb => Lib.hid (h.out.below hb))) 18 [fixdS (.pointer (some ⟨g, 0, none⟩)), fixdS (.pointer (some ⟨g, 0, none⟩)), fixdS (.pointer (some ⟨g, 0, none⟩)), fixdS (.pointer (some ⟨g, 1, none⟩)), fixdS (.pointer (some ⟨g, 2, none⟩)), fixdS (.slice ac nc cc), fixdS (.agg (adrC b).toArray), fixdS (.pointer (some ⟨g, 0, none⟩)), fixdS (.pointer (some ⟨g, 0, none⟩)), fixdS (.pointer (some ⟨g, 0, none⟩)), fixdS (.string ⟨x.toArray⟩), fixdS (.tuple #[.int .u64 0, .int .i64 180]), fixdS (.int .u64 0), fixdS (.int .i64 180), neverT, neverT, neverT, neverT] (by kernel_rfl) (by kernel_rfl) (Lib.hid hw2.out) (fun x ch W hd h => ?_) ?_
            rotate_left 1
            simp only [List.take_succ_cons, List.take_zero, List.drop_succ_cons, List.drop_zero]
            try simp only [Act.put, List.setIfInBounds_toArray, List.set_cons_succ, List.set_cons_zero, List.nil_append, List.cons_append]
            apply wpGrowS_fix (.pointer (some ⟨g, 0, none⟩)) rfl rfl rfl
            · intro bq W hS hb hF
              go_simp
              first | exact xrefl W | exact ⟨rfl, xrefl W⟩
            try simp only [Act.put, List.setIfInBounds_toArray, List.set_cons_succ, List.set_cons_zero, List.nil_append, List.cons_append]
            apply wpGrowS_fix (.pointer (some ⟨g, 0, none⟩)) rfl rfl rfl
            · intro bq W hS hb hF
              go_simp
              first | exact xrefl W | exact ⟨rfl, xrefl W⟩
            try simp only [Act.put, List.setIfInBounds_toArray, List.set_cons_succ, List.set_cons_zero, List.nil_append, List.cons_append]
            apply wpGrowS_fix (.pointer (some ⟨g, 0, none⟩)) rfl rfl rfl
            · intro bq W hS hb hF
              go_simp
              first | exact xrefl W | exact ⟨rfl, xrefl W⟩
            try simp only [Act.put, List.setIfInBounds_toArray, List.set_cons_succ, List.set_cons_zero, List.nil_append, List.cons_append]
            apply wpGrowS_fix (.pointer (some ⟨g, 1, none⟩)) rfl rfl rfl
            · intro bq W hS hb hF
              go_simp
              first | exact xrefl W | exact ⟨rfl, xrefl W⟩
            try simp only [Act.put, List.setIfInBounds_toArray, List.set_cons_succ, List.set_cons_zero, List.nil_append, List.cons_append]
            apply wpGrowS_fix (.pointer (some ⟨g, 2, none⟩)) rfl rfl rfl
            · intro bq W hS hb hF
              go_simp
              first | exact xrefl W | exact ⟨rfl, xrefl W⟩
            try simp only [Act.put, List.setIfInBounds_toArray, List.set_cons_succ, List.set_cons_zero, List.nil_append, List.cons_append]
            apply wpGrowS_fix (.slice ac nc cc) rfl rfl rfl
            · intro bq W hS hb hF
              have c := (hcl.out bq W hS.out)
              go_simp
              first | exact xrefl W | exact ⟨rfl, xrefl W⟩
            try simp only [Act.put, List.setIfInBounds_toArray, List.set_cons_succ, List.set_cons_zero, List.nil_append, List.cons_append]
            apply wpGrowS_fix (.agg (adrC b).toArray) rfl rfl rfl
            · intro bq W hS hb hF
              rw [exec_load_blkG 29 _ rfl _ rfl 29 _ _ (hAk.out W hb) Tryz.underlying29 rfl (by rw [hA20]; kernel_rfl)]
              exact ⟨rfl, xrefl W⟩
            try simp only [Act.put, List.setIfInBounds_toArray, List.set_cons_succ, List.set_cons_zero, List.nil_append, List.cons_append]
            apply wpGrowS_fix (.pointer (some ⟨g, 0, none⟩)) rfl rfl rfl
            · intro bq W hS hb hF
              go_simp
              first | exact xrefl W | exact ⟨rfl, xrefl W⟩
            try simp only [Act.put, List.setIfInBounds_toArray, List.set_cons_succ, List.set_cons_zero, List.nil_append, List.cons_append]
            apply wpGrowS_fix (.pointer (some ⟨g, 0, none⟩)) rfl rfl rfl
            · intro bq W hS hb hF
              go_simp
              first | exact xrefl W | exact ⟨rfl, xrefl W⟩
            try simp only [Act.put, List.setIfInBounds_toArray, List.set_cons_succ, List.set_cons_zero, List.nil_append, List.cons_append]
            apply wpGrowS_fix (.pointer (some ⟨g, 0, none⟩)) rfl rfl rfl
            · intro bq W hS hb hF
              go_simp
              first | exact xrefl W | exact ⟨rfl, xrefl W⟩
            try simp only [Act.put, List.setIfInBounds_toArray, List.set_cons_succ, List.set_cons_zero, List.nil_append, List.cons_append]
            refine wpGrowS_any (fixdS (.string ⟨x.toArray⟩)) rfl rfl (fun bq W hk0 hS hb hF => ?_) (fun v hv => ?_)
            · obtain rfl := hk0 rfl
              go_simp
              go_at_call 97
              refine (take_one g _ _ _ x r2 W hS.out).mono ?_
              rintro e w' ⟨rfl, hw', ho'⟩
              exact .inl ⟨_, rfl, ⟨rfl, trivial⟩, tookO hS.out ho', (Lib.hid hw' : Hid (WdAt _ g _ _ _ r2))⟩
            obtain rfl : v = .string ⟨x.toArray⟩ := hv
            try simp only [Act.put, List.setIfInBounds_toArray, List.set_cons_succ, List.set_cons_zero, List.nil_append, List.cons_append]
            apply wpGrowS_fix (.tuple #[.int .u64 0, .int .i64 180]) rfl rfl rfl
            · intro bq W hS hb hF
              go_simp
              go_at_call 99
              refine (hlab.out W (hTk.out W hb)).mono ?_
              rintro e w' ⟨rfl, hb'⟩
              exact ⟨rfl, hb'⟩
            try simp only [Act.put, List.setIfInBounds_toArray, List.set_cons_succ, List.set_cons_zero, List.nil_append, List.cons_append]
            apply wpGrowS_fix (.int .u64 0) rfl rfl rfl
            · intro bq W hS hb hF
              go_simp
              first | exact xrefl W | exact ⟨rfl, xrefl W⟩
            try simp only [Act.put, List.setIfInBounds_toArray, List.set_cons_succ, List.set_cons_zero, List.nil_append, List.cons_append]
            apply wpGrowS_fix (.int .i64 180) rfl rfl rfl
            · intro bq W hS hb hF
              go_simp
              first | exact xrefl W | exact ⟨rfl, xrefl W⟩
            try simp only [Act.put, List.setIfInBounds_toArray, List.set_cons_succ, List.set_cons_zero, List.nil_append, List.cons_append]
            refine wpGrowS_any neverT rfl rfl (fun bq W hk0 hS hb hF => ?_) (fun v hv => ?_)
            · go_simp
              go_at_call 98
              refine (gotL_no W).mono ?_
              rintro e w' ⟨rfl, rfl⟩
              exact .inr ⟨_, rfl, rfl, hbS.out W hb⟩
            obtain rfl : v = undef := hv
            try simp only [Act.put, List.setIfInBounds_toArray, List.set_cons_succ, List.set_cons_zero, List.nil_append, List.cons_append]
            refine wpGrowS_any neverT rfl rfl (fun bq W hk0 hS hb hF => ?_) (fun v hv => ?_)
            · exact (hF 14 (by kernel_rfl) (by simp)).elim
            obtain rfl : v = undef := hv
            try simp only [Act.put, List.setIfInBounds_toArray, List.set_cons_succ, List.set_cons_zero, List.nil_append, List.cons_append]
            refine wpGrowS_any neverT rfl rfl (fun bq W hk0 hS hb hF => ?_) (fun v hv => ?_)
            · exact (hF 15 (by kernel_rfl) (by simp)).elim
            obtain rfl : v = undef := hv
            try simp only [Act.put, List.setIfInBounds_toArray, List.set_cons_succ, List.set_cons_zero, List.nil_append, List.cons_append]
            refine wpGrowS_any neverT rfl rfl (fun bq W hk0 hS hb hF => ?_) (fun v hv => ?_)
            · exact (hF 16 (by kernel_rfl) (by simp)).elim
            obtain rfl : v = undef := hv
            try simp only [Act.put, List.setIfInBounds_toArray, List.set_cons_succ, List.set_cons_zero, List.nil_append, List.cons_append]
            · refine wpGrowS_nil fun W' _ _ hmem => (hmem 14 (by decide)).elim
            obtain ⟨rfl, hb'⟩ := h
            exact ⟨hd.1, hbad.out _ hb'⟩
          | some d =>
            have htc : takeC p (a :: x :: r2) = some ({ p with clears := p.clears ++ [(b, d)] }, r2) := by unfold takeC; rw [if_pos hr]; simp [ha, hd]
            have hlab := Lib.hid fun W hT => label_ok x d W hxl hT hd
            obtain ⟨ys, hys⟩ : ∃ ys : List Value, ys = clearC (b, d) := ⟨_, rfl⟩
            replace hAk := Lib.hid (hAk.out ys)
            replace hbS := Lib.hid (hbS.out ys)
            replace hTk := Lib.hid (hTk.out ys)
            replace hoc0 := Lib.hid (hoc0.out ys)
            have hbuilt := Lib.hid (built_clear b d hb20)
            have hbsl := Lib.hid (bsl_clear b d hb20)
            rw [← hys] at hbuilt hbsl
            have hyl : ys.length = 21 := by rw [hys]; exact clearC_len ⟨hb20, hb256⟩
            have hone : ∀ u ∈ ys, u.oneCell' = true := by rw [hys]; exact List.all_eq_true.1 (clearC_one (b, d))
            replace hys := Lib.hid hys
            obtain ⟨ic, hic, hzc, hsc, hbc⟩ := info_parts infoC
            generalize hzv : Value.agg (clearC (zAdr, 0)).toArray = zc at *
            have hzs : zc.cells.size = 21 := by rw [← hzv]; rfl
            refine' wp_region_growSR (goesO g 65 21 (.slice ac nc cc) nc xs ys (fun b W => Hid (WdAt W g p.dflt (.slice ac nc cc) vr (cond b r2 (x :: r2)))) (fun _ _ => False) 10 (fun _ _ _ h hb => Lib.hid (h.out.below hb))) 18 [fixdS (.pointer (some ⟨g, 0, none⟩)), fixdS (.pointer (some ⟨g, 0, none⟩)), fixdS (.pointer (some ⟨g, 0, none⟩)), fixdS (.pointer (some ⟨g, 1, none⟩)), fixdS (.pointer (some ⟨g, 2, none⟩)), fixdS (.slice ac nc cc), fixdS (.agg (adrC b).toArray), fixdS (.pointer (some ⟨g, 0, none⟩)), fixdS (.pointer (some ⟨g, 0, none⟩)), fixdS (.pointer (some ⟨g, 0, none⟩)), fixdS (.string ⟨x.toArray⟩), fixdS (.tuple #[.int .u64 (iv64 d), .int .i64 0]), fixdS (.int .u64 (iv64 d)), fixdS (.int .i64 0), fixdS (.int .u64 (iv64 d)), fixdS (.agg ys.toArray), newT g 65 21 (.slice ac nc cc) nc xs ys, ownO g 65 21 (.slice ac nc cc) nc xs ys] (by kernel_rfl) (by kernel_rfl) (Lib.hid hw2.out) (fun x ch W hd h => h.elim) ?_
            simp only [List.take_succ_cons, List.take_zero, List.drop_succ_cons, List.drop_zero]
            try simp only [Act.put, List.setIfInBounds_toArray, List.set_cons_succ, List.set_cons_zero, List.nil_append, List.cons_append]
            apply wpGrowS_fix (.pointer (some ⟨g, 0, none⟩)) rfl rfl rfl
            · intro bq W hS hb hF
              go_simp
              first | exact xrefl W | exact ⟨rfl, xrefl W⟩
            try simp only [Act.put, List.setIfInBounds_toArray, List.set_cons_succ, List.set_cons_zero, List.nil_append, List.cons_append]
            apply wpGrowS_fix (.pointer (some ⟨g, 0, none⟩)) rfl rfl rfl
            · intro bq W hS hb hF
              go_simp
              first | exact xrefl W | exact ⟨rfl, xrefl W⟩
            try simp only [Act.put, List.setIfInBounds_toArray, List.set_cons_succ, List.set_cons_zero, List.nil_append, List.cons_append]
            apply wpGrowS_fix (.pointer (some ⟨g, 0, none⟩)) rfl rfl rfl
            · intro bq W hS hb hF
              go_simp
              first | exact xrefl W | exact ⟨rfl, xrefl W⟩
            try simp only [Act.put, List.setIfInBounds_toArray, List.set_cons_succ, List.set_cons_zero, List.nil_append, List.cons_append]
            apply wpGrowS_fix (.pointer (some ⟨g, 1, none⟩)) rfl rfl rfl
            · intro bq W hS hb hF
              go_simp
              first | exact xrefl W | exact ⟨rfl, xrefl W⟩
            try simp only [Act.put, List.setIfInBounds_toArray, List.set_cons_succ, List.set_cons_zero, List.nil_append, List.cons_append]
            apply wpGrowS_fix (.pointer (some ⟨g, 2, none⟩)) rfl rfl rfl
            · intro bq W hS hb hF
              go_simp
              first | exact xrefl W | exact ⟨rfl, xrefl W⟩
            try simp only [Act.put, List.setIfInBounds_toArray, List.set_cons_succ, List.set_cons_zero, List.nil_append, List.cons_append]
            apply wpGrowS_fix (.slice ac nc cc) rfl rfl rfl
            · intro bq W hS hb hF
              have c := (hcl.out bq W hS.out)
              go_simp
              first | exact xrefl W | exact ⟨rfl, xrefl W⟩
            try simp only [Act.put, List.setIfInBounds_toArray, List.set_cons_succ, List.set_cons_zero, List.nil_append, List.cons_append]
            apply wpGrowS_fix (.agg (adrC b).toArray) rfl rfl rfl
            · intro bq W hS hb hF
              rw [exec_load_blkG 29 _ rfl _ rfl 29 _ _ (hAk.out W hb) Tryz.underlying29 rfl (by rw [hA20]; kernel_rfl)]
              exact ⟨rfl, xrefl W⟩
            try simp only [Act.put, List.setIfInBounds_toArray, List.set_cons_succ, List.set_cons_zero, List.nil_append, List.cons_append]
            apply wpGrowS_fix (.pointer (some ⟨g, 0, none⟩)) rfl rfl rfl
            · intro bq W hS hb hF
              go_simp
              first | exact xrefl W | exact ⟨rfl, xrefl W⟩
            try simp only [Act.put, List.setIfInBounds_toArray, List.set_cons_succ, List.set_cons_zero, List.nil_append, List.cons_append]
            apply wpGrowS_fix (.pointer (some ⟨g, 0, none⟩)) rfl rfl rfl
            · intro bq W hS hb hF
              go_simp
              first | exact xrefl W | exact ⟨rfl, xrefl W⟩
            try simp only [Act.put, List.setIfInBounds_toArray, List.set_cons_succ, List.set_cons_zero, List.nil_append, List.cons_append]
            apply wpGrowS_fix (.pointer (some ⟨g, 0, none⟩)) rfl rfl rfl
            · intro bq W hS hb hF
              go_simp
              first | exact xrefl W | exact ⟨rfl, xrefl W⟩
            try simp only [Act.put, List.setIfInBounds_toArray, List.set_cons_succ, List.set_cons_zero, List.nil_append, List.cons_append]
            refine wpGrowS_any (fixdS (.string ⟨x.toArray⟩)) rfl rfl (fun bq W hk0 hS hb hF => ?_) (fun v hv => ?_)
            · obtain rfl := hk0 rfl
              go_simp
              go_at_call 97
              refine (take_one g _ _ _ x r2 W hS.out).mono ?_
              rintro e w' ⟨rfl, hw', ho'⟩
              exact .inl ⟨_, rfl, ⟨rfl, trivial⟩, tookO hS.out ho', (Lib.hid hw' : Hid (WdAt _ g _ _ _ r2))⟩
            obtain rfl : v = .string ⟨x.toArray⟩ := hv
            try simp only [Act.put, List.setIfInBounds_toArray, List.set_cons_succ, List.set_cons_zero, List.nil_append, List.cons_append]
            apply wpGrowS_fix (.tuple #[.int .u64 (iv64 d), .int .i64 0]) rfl rfl rfl
            · intro bq W hS hb hF
              go_simp
              go_at_call 99
              refine (hlab.out W (hTk.out W hb)).mono ?_
              rintro e w' ⟨rfl, hb'⟩
              exact ⟨rfl, hb'⟩
            try simp only [Act.put, List.setIfInBounds_toArray, List.set_cons_succ, List.set_cons_zero, List.nil_append, List.cons_append]
            apply wpGrowS_fix (.int .u64 (iv64 d)) rfl rfl rfl
            · intro bq W hS hb hF
              go_simp
              first | exact xrefl W | exact ⟨rfl, xrefl W⟩
            try simp only [Act.put, List.setIfInBounds_toArray, List.set_cons_succ, List.set_cons_zero, List.nil_append, List.cons_append]
            apply wpGrowS_fix (.int .i64 0) rfl rfl rfl
            · intro bq W hS hb hF
              go_simp
              first | exact xrefl W | exact ⟨rfl, xrefl W⟩
            try simp only [Act.put, List.setIfInBounds_toArray, List.set_cons_succ, List.set_cons_zero, List.nil_append, List.cons_append]
            apply wpGrowS_fix (.int .u64 (iv64 d)) rfl rfl rfl
            · intro bq W hS hb hF
              go_simp
              go_at_call 98
              refine (gotL_ok d W).mono ?_
              rintro e w' ⟨rfl, rfl⟩
              exact ⟨rfl, xrefl _⟩
            try simp only [Act.put, List.setIfInBounds_toArray, List.set_cons_succ, List.set_cons_zero, List.nil_append, List.cons_append]
            apply wpGrowS_fix (.agg ys.toArray) rfl rfl rfl
            · intro bq W hS hb hF
              rw [exec_build 65 _ rfl [(0, adrV b), (1, labV d)] rfl _ hbuilt.out]
              exact ⟨rfl, xrefl W⟩
            try simp only [Act.put, List.setIfInBounds_toArray, List.set_cons_succ, List.set_cons_zero, List.nil_append, List.cons_append]
            refine wpGrowS_any (newT g 65 21 (.slice ac nc cc) nc xs ys) rfl rfl (fun bq W hk0 hS hb hF => ?_) (fun v hv => ?_)
            · rw [exec_bsl 24 _ rfl (.agg ys.toArray) rfl (hbsl.out W)]
              exact ⟨⟨⟨_, rfl⟩, newT_new hS.out.lt (hoc0.out W hb)⟩, StyO.below (xalloc (xrefl W) _), Lib.hid (hS.out.below (xalloc (xrefl W) _))⟩
            obtain ⟨q, rfl⟩ := hv
            try simp only [Act.put, List.setIfInBounds_toArray, List.set_cons_succ, List.set_cons_zero, List.nil_append, List.cons_append]
            refine wpGrowS_any (ownO g 65 21 (.slice ac nc cc) nc xs ys) rfl rfl (fun bq W hk0 hS hb hF => ?_) (fun v hv => ?_)
            · have hq := hF 16 (by kernel_rfl) (by simp)
              obtain ⟨q', eq, hB, hq1, hq2⟩ : NewAt g (.slice ac nc cc) ys 65 (.slice (some ⟨q, 0, none⟩) 1 1) W := hq
              cases eq
              obtain ⟨v', w', hrun, ho, hg', hbk, hk1, hk2⟩ := run_append_own_keep (P := Tryz.prog) W g 24 24 65 ic zc 21 32 Tryz.underlying24 hic hzc hsc hbc hzs (by decide) (.slice ac nc cc) nc xs (hoc0.out W hb) ⟨q, 0, none⟩ 1 1 ys (by rw [hyl]) (fun j u hj => blk_add hB hj) hone (by unfold maxLen; omega) (by omega) (Nat.le_of_lt hS.out.lt)
              rw [exec_append 24 _ _ rfl _ _ rfl rfl hrun]
              exact ⟨⟨own_sliceV ho, ho⟩, StyO.app hg' hk1 hk2, Lib.hid (hS.out.grown (hoc0.out W hb) (by decide) (by decide) hg')⟩
            obtain ⟨a5, c5, rfl⟩ := hv
            try simp only [Act.put, List.setIfInBounds_toArray, List.set_cons_succ, List.set_cons_zero, List.nil_append, List.cons_append]
            refine wpGrowS_nil fun W6 hb6 hS6 hmem => ?_
            have hown : W6.ownsRow g 65 21 (.slice a5 (nc + 1) c5) (nc + 1) (xs ++ ys) := hmem 17 (by decide)
            have hb6 : StyO g 65 21 (.slice ac nc cc) nc xs ys w5 W6 := hb6
            have hS6 : Hid (WdAt W6 g p.dflt (.slice ac nc cc) vr r2) := hS6
            obtain ⟨al6, cl6, hB6, -⟩ := hS6.out.out
            have c6 := hB6.cell 2 (by simp [rdC])
            simp only [rdC, List.getElem_cons_succ, List.getElem_cons_zero] at c6
            have f6 := hB6.free 2
            have hBelow := Lib.hid (hbS.out W6 hb6)
            have hsz6 := hb6.1.size
            have hfin : Hid (RdPost g (takeC p (a :: x :: r2)) w (.returned (.tuple #[])) (W6.setCell ⟨g, 2, none⟩ (.slice a5 (nc + 1) c5))) := Lib.hid (by
              have hB7 := hB6.set 2 (.slice a5 (nc + 1) c5)
              have ho7 : Only (· = g) W6 (W6.setCell ⟨g, 2, none⟩ (.slice a5 (nc + 1) c5)) := (Only.refl _ _).setCell _ _ rfl
              have hn1 := own_neG hown hB6 ct_ne
              have hvr6 : W6.ownsRow g 67 22 vr 0 (p.rels.flatMap relC) := own_onlyG hvr.out hb6.1 fun k hk e => by
                rcases e with rfl | e
                · obtain ⟨_, _, h1, -⟩ := hw2.out.out
                  exact own_neG hvr.out h1 rt_ne hk
                · exact own_two hvr.out (hoc0.out w5 (StyO.refl _)) (by decide) (hk.trans e.symm) hk
              have hn2 := own_neG hvr6 hB6 rt_ne
              refine RdPost.good htc ⟨⟨al6, cl6, _, _, hB7, ?_, ?_⟩, ⟨fun y hy => ?_, hok.out.r⟩⟩ (below_only hBelow.out ⟨ho7, fun k hk => hk.ne hB6 (by decide)⟩ (by omega) (by rintro k rfl; exact Nat.le_refl _))
              · show World.ownsRow _ g _ 21 _ (p.clears ++ [(b, d)]).length ((p.clears ++ [(b, d)]).flatMap clearC)
                rw [List.length_append, List.flatMap_append, ← hnc.out, ← hxs.out]
                have : [(b, d)].flatMap clearC = ys := by rw [hys.out]; simp
                rw [this]
                exact own_onlyG hown ho7 fun k hk e => hn1 (by rw [hk, e])
              · show World.ownsRow _ g _ 22 _ p.rels.length _
                rw [hrl]
                exact own_onlyG hvr6 ho7 fun k hk e => hn2 (by rw [hk, e])
              · rcases List.mem_append.1 hy with hy | hy
                · exact hok.out.c y hy
                · simp only [List.mem_singleton] at hy
                  subst hy
                  exact ⟨hb20, hb256⟩)
            clear hB6 hown hb6 hmem hBelow hS6
            go_wp2
            go_end0
            exact hfin.out
  · have hbad : Hid (∀ W, BelowS g w W → RdPost g (takeC p ws) w (.panicked (errP 190)) W) := Lib.hid fun W hb => RdPost.bad (by unfold takeC; rw [if_neg hr]) hb
    have hrl : ¬ (p.rels.length : Int) = 0 := fun e => hr (List.length_eq_zero_iff.1 (by omega))
    have hrb : ((p.rels.length : Int) == 0) = false := by simpa using hrl
    generalize p.rels.length = nr at *
    clear hB hS hT hw hr
    go_enter Tryz.func121, Tryz.ntmps121
    go_wp2_with (go_at_call 59; refine (hmf.out _).mono ?_; rintro e w2 ⟨rfl, rfl⟩)
    exact ⟨rfl, hbad.out _ hgg⟩
end Go.Proofs.YthpallkphamobaaGreatDoor
