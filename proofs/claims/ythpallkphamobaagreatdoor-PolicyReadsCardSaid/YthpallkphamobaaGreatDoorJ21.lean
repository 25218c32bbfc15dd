/- Texts of this claim, merged; no condition. -/
import Derived.Test.YthpallkphamobaaGreatDoorJ20
import Derived.Test.YthpallkphamobaaGreatDoorJ05
set_option linter.all false
namespace Go.Proofs.YthpallkphamobaaGreatDoor
open Go.RowKit Go.Shelf

set_option maxRecDepth 100000 in
theorem built_rel0 (a : List Nat) (e : Nat) (h : a.length = 20) : Tryz.prog.built 67 [(0, adrV a), (1, .int .u32 e)] = some (relC (a, e, 0)).toArray := by
  obtain ⟨b0, b1, b2, b3, b4, b5, b6, b7, b8, b9, b10, b11, b12, b13, b14, b15, b16, b17, b18, b19, rfl⟩ := list20 a h
  clear h
  kernel_rfl
theorem rel_set (a : List Nat) (e : Nat) (x y : BitVec 64) (h : a.length = 20) : (relC (a, e, x)).set 21 (labV y) = relC (a, e, y) := by
  obtain ⟨b0, b1, b2, b3, b4, b5, b6, b7, b8, b9, b10, b11, b12, b13, b14, b15, b16, b17, b18, b19, rfl⟩ := list20 a h
  rfl
theorem rel_at (a : List Nat) (e : Nat) (x : BitVec 64) (h : a.length = 20) : (relC (a, e, x))[21]? = some (labV x) := by
  obtain ⟨b0, b1, b2, b3, b4, b5, b6, b7, b8, b9, b10, b11, b12, b13, b14, b15, b16, b17, b18, b19, rfl⟩ := list20 a h
  rfl
theorem takeR_2 (p : PolN) (a n : List UInt8) (r : List (List UInt8)) (b : List Nat) (h : addrF a = some b) (hn : numF n = none) : takeR p (a :: n :: r) = none := by
  cases r with
  | nil => rfl
  | cons x r => show (addrF a).bind _ = _; rw [h]; show (numF n).bind _ = _; rw [hn]; rfl
theorem takeR_1 (p : PolN) (a : List UInt8) (r : List (List UInt8)) (h : addrF a = none) : takeR p (a :: r) = none := by
  match r with
  | [] => rfl
  | [_] => rfl
  | n :: x :: r => show (addrF a).bind _ = _; rw [h]; rfl
theorem num_bad (g : Nat) (p : PolN) (vc vr : Value) (ws : List (List UInt8)) (w : World) (hS : RdS w g p vc vr ws) (hT : TabP w) (hg : 8 ≤ g) (hw : ∀ x ∈ ws, x.length ≤ 65536) (hn : takeN ws = none) : Calls Tryz.prog 124 #[.pointer (some ⟨g, 0, none⟩)] w fun e w' => e = .panicked (errP 190) ∧ BelowS g w w' :=
  (number_any g p vc vr ws w hS hT hg hw).mono fun e w' h => ⟨h.1 hn, h.2.2⟩
theorem num_good (g : Nat) (p : PolN) (vc vr : Value) (ws : List (List UInt8)) (w : World) (hS : RdS w g p vc vr ws) (hT : TabP w) (hg : 8 ≤ g) (hw : ∀ x ∈ ws, x.length ≤ 65536) (k : Nat) (r : List (List UInt8)) (hn : takeN ws = some (k, r)) : Calls Tryz.prog 124 #[.pointer (some ⟨g, 0, none⟩)] w fun e w' => e = .returned (.int .u32 k) ∧ RdS w' g p vc vr r ∧ BelowS g w w' :=
  (number_any g p vc vr ws w hS hT hg hw).mono fun e w' h => ⟨(h.2.1 k r hn).1, (h.2.1 k r hn).2, h.2.2⟩
set_option maxRecDepth 100000 in
set_option maxHeartbeats 16000000 in
theorem reads2_any (g : Nat) (p : PolN) (vc vr : Value) (ws : List (List UInt8)) (w : World) (hS : RdS w g p vc vr ws) (hT : TabP w) (hg : 8 ≤ g) (hw : ∀ x ∈ ws, x.length ≤ 65536) (hl : p.rels.length ≤ 100000) :
    Calls Tryz.prog 123 #[.pointer (some ⟨g, 0, none⟩)] w (RdPost g (takeR p ws) w) := by
  have hgl := hS.lt
  have hgg : BelowS g w w := BelowS.refl _ _
  cases ws with
  | nil =>
    have hbad : Hid (∀ W, BelowS g w W → RdPost g (takeR p []) w (.panicked (errP 190)) W) := Lib.hid fun W hb => RdPost.bad rfl hb
    have htk := Lib.hid (take_none g _ _ _ w hS.wd)
    clear hS hT hw
    go_enter Tryz.func123, Tryz.ntmps123
    go_wp2_with (go_at_call 97; refine htk.out.mono ?_; rintro e w2 ⟨rfl, rfl⟩)
    exact ⟨rfl, hbad.out _ hgg⟩
  | cons a r1 =>
    have htk := Lib.hid (take_one g _ _ _ a r1 w hS.wd)
    have hal : a.length ≤ 4194304 := by have := hw a (by simp); omega
    have hSt : Hid (∀ W2, WdAt W2 g p.dflt vc vr r1 → OnlyG g w W2 → RdS W2 g p vc vr r1) := Lib.hid fun W2 h1 h2 => hS.took h1 h2
    have hTt : Hid (∀ W2, BelowS g w W2 → TabP W2) := Lib.hid fun W2 h => hT.belowG h.b hg
    have hw1 : Hid (∀ x ∈ r1, x.length ≤ 65536) := Lib.hid fun x hx => hw x (by simp [hx])
    cases ha : addrF a with
    | none =>
      have hbad : Hid (∀ W, BelowS g w W → RdPost g (takeR p (a :: r1)) w (.panicked (errP 190)) W) := Lib.hid fun W hb => RdPost.bad (takeR_1 p a r1 ha) hb
      have had := Lib.hid fun W => address_no a W hal ha
      have hgo := Lib.hid fun W => gotA_no (adrC zAdr).toArray W
      unfold adrV at had
      clear hS hT hw ha
      generalize (adrC zAdr).toArray = zv at *
      go_enter Tryz.func123, Tryz.ntmps123
      go_wp2_with (first
        | (go_at_call 97; refine htk.out.mono ?_; rintro e w2 ⟨rfl, hW2, ho2⟩; have hs2 := ho2.size; replace ho2 := Lib.hid (below_only hgg ho2 (by omega) (by rintro k rfl; exact Nat.le_refl _)); clear hW2)
        | (go_at_call 18; refine (had.out _).mono ?_; rintro e w3 ⟨rfl, hb3⟩; replace hb3 := Lib.hid (below_to ho2.out hb3 (by omega)))
        | (go_at_call 122; refine (hgo.out _).mono ?_; rintro e w4 ⟨rfl, hb4⟩; have hs4 := hb4.size; have hs3 := ho2.out.size; replace hb4 := Lib.hid (below_to hb3.out hb4 (by have := hb3.out.size; omega))))
      exact ⟨rfl, hbad.out _ hb4.out⟩
    | some b =>
      obtain ⟨-, hb256, hb20⟩ := addr_some ha
      have had := Lib.hid fun W => address_ok a b W hal ha
      have hgo := Lib.hid fun W => gotA_ok b hb20 W
      unfold adrV at had hgo
      cases htn : takeN r1 with
      | none =>
        have hbad : Hid (∀ W, BelowS g w W → RdPost g (takeR p (a :: r1)) w (.panicked (errP 190)) W) := Lib.hid fun W hb => RdPost.bad (by
          match r1, htn with
          | [], _ => rfl
          | n :: r2, htn => exact takeR_2 p a n r2 b ha (by have h : (numF n).map (fun k => (k, r2)) = none := htn; simpa using h)) hb
        have hnum : Hid (∀ W, RdS W g p vc vr r1 → TabP W → Calls Tryz.prog 124 #[.pointer (some ⟨g, 0, none⟩)] W fun e w' => e = .panicked (errP 190) ∧ BelowS g W w') := Lib.hid fun W h1 h2 => num_bad g p vc vr r1 W h1 h2 hg hw1.out htn
        clear hS hT hw
        go_enter Tryz.func123, Tryz.ntmps123
        go_wp2_with (first
          | (go_at_call 97; refine htk.out.mono ?_; rintro e w2 ⟨rfl, hW2, ho2⟩; have hs2 := ho2.size; have hR2 := Lib.hid (hSt.out _ hW2 ho2); replace ho2 := Lib.hid (below_only hgg ho2 (by omega) (by rintro k rfl; exact Nat.le_refl _)); clear hW2)
          | (go_at_call 18; refine (had.out _).mono ?_; rintro e w3 ⟨rfl, hb3⟩; have hs3 := hb3.size; have hR3 := Lib.hid (hR2.out.below hb3); replace hb3 := Lib.hid (below_to ho2.out hb3 (by omega)))
          | (go_at_call 122; refine (hgo.out _).mono ?_; rintro e w4 ⟨rfl, hb4⟩; have hs4 := hb4.size; have hR4 := Lib.hid (hR3.out.below hb4); replace hb4 := Lib.hid (below_to hb3.out hb4 (by omega)))
          | (go_at_call 124; refine (hnum.out _ hR4.out (hTt.out _ hb4.out)).mono ?_; rintro e w5 ⟨rfl, hb5⟩; replace hb5 := Lib.hid (hb4.out.trans hb5)))
        exact ⟨rfl, hbad.out _ hb5.out⟩
      | some nr =>
        obtain ⟨en, r2⟩ := nr
        obtain ⟨n, rfl, hnF⟩ : ∃ n, r1 = n :: r2 ∧ numF n = some en := by
          match r1, htn with
          | n :: r2', htn =>
            have h : (numF n).map (fun k => (k, r2')) = some (en, r2) := htn
            cases hk : numF n with
            | none => rw [hk] at h; cases h
            | some k => rw [hk] at h; simp at h; obtain ⟨rfl, rfl⟩ := h; exact ⟨n, rfl, hk⟩
        have hen := (num_some hnF).2
        have hnum : Hid (∀ W, RdS W g p vc vr (n :: r2) → TabP W → Calls Tryz.prog 124 #[.pointer (some ⟨g, 0, none⟩)] W fun e w' => e = .returned (.int .u32 en) ∧ RdS w' g p vc vr r2 ∧ BelowS g W w') := Lib.hid fun W h1 h2 => num_good g p vc vr _ W h1 h2 hg hw1.out en r2 htn
        have hbuilt := Lib.hid (built_rel0 b en hb20)
        unfold adrV at hbuilt
        have hlz : (relC (b, en, 0)).length = 22 := relC_len ⟨hb20, hb256⟩
        have hlR : (relC (zAdr, 0, 0)).length = 22 := rfl
        have honez : (relC (b, en, 0)).all (·.oneCell') = true := relC_one _
        have hcz := rel_at b en 0 hb20
        cases r2 with
        | nil =>
          have hbad : Hid (∀ W, BelowS g w W → RdPost g (takeR p [a, n]) w (.panicked (errP 190)) W) := Lib.hid fun W hb => RdPost.bad rfl hb
          have htk2 := Lib.hid fun W (h : RdS W g p vc vr []) => take_none g _ _ _ W h.wd
          clear hS hT hw htn hcz
          go_enter Tryz.func123, Tryz.ntmps123
          go_wp2_with (first
            | (go_at_call 97; refine htk.out.mono ?_; rintro e w2 ⟨rfl, hW2, ho2⟩; have hs2 := ho2.size; have hR2 := Lib.hid (hSt.out _ hW2 ho2); replace ho2 := Lib.hid (below_only hgg ho2 (by omega) (by rintro k rfl; exact Nat.le_refl _)); clear hW2 htk)
            | (go_at_call 97; refine (htk2.out _ hR6.out).mono ?_; rintro e w7 ⟨rfl, rfl⟩)
            | (go_at_call 18; refine (had.out _).mono ?_; rintro e w3 ⟨rfl, hb3⟩; have hs3 := hb3.size; have hR3 := Lib.hid (hR2.out.below hb3); replace hb3 := Lib.hid (below_to ho2.out hb3 (by omega)))
            | (go_at_call 122; refine (hgo.out _).mono ?_; rintro e w4 ⟨rfl, hb4⟩; have hs4 := hb4.size; have hR4 := Lib.hid (hR3.out.below hb4); replace hb4 := Lib.hid (below_to hb3.out hb4 (by omega)))
            | (go_at_call 124; refine (hnum.out _ hR4.out (hTt.out _ hb4.out)).mono ?_; rintro e w5 ⟨rfl, hR5, hb5⟩; replace hR5 := Lib.hid hR5; have hs5 := hb5.size; replace hb5 := Lib.hid (hb4.out.trans hb5))
            | (refine wpList_build rfl 67 _ rfl [(0, .agg (adrC b).toArray), (1, .int .u32 en)] rfl _ hbuilt.out ?_)
            | (refine wpList_store_blkG rfl 67 _ _ rfl w5.heap.size rfl 67 [.int .u8 0, .int .u8 0, .int .u8 0, .int .u8 0, .int .u8 0, .int .u8 0, .int .u8 0, .int .u8 0, .int .u8 0, .int .u8 0, .int .u8 0, .int .u8 0, .int .u8 0, .int .u8 0, .int .u8 0, .int .u8 0, .int .u8 0, .int .u8 0, .int .u8 0, .int .u8 0, .int .u32 0, .int .u64 0] (relC (b, en, 0)) (BlkG.new w5 _ _) rfl (by rw [hlz]; rfl) (by rw [hlz]; kernel_rfl) honez ?_; intro w6 hB6 ho6; have hb6 := ho6.below (xalloc (xrefl w5) _) (xalloc (xrefl w5) (.cells ([.int .u8 0, .int .u8 0, .int .u8 0, .int .u8 0, .int .u8 0, .int .u8 0, .int .u8 0, .int .u8 0, .int .u8 0, .int .u8 0, .int .u8 0, .int .u8 0, .int .u8 0, .int .u8 0, .int .u8 0, .int .u8 0, .int .u8 0, .int .u8 0, .int .u8 0, .int .u8 0, .int .u32 0, .int .u64 0]).toArray 67)).size (by rintro k rfl; exact Nat.le_refl _); have hR6 := Lib.hid (hR5.out.below hb6); replace hb6 := Lib.hid (below_to hb5.out hb6 (by omega)); clear ho6 hB6))
          exact ⟨rfl, hbad.out _ hb6.out⟩
        | cons x r3 =>
          have hxl : x.length ≤ 65536 := hw1.out x (by simp)
          have htk2 := Lib.hid fun W (h : RdS W g p vc vr (x :: r3)) => (take_one g _ _ _ x r3 W h.wd).mono (fun e w' h' => (⟨h'.1, h.took h'.2.1 h'.2.2, h'.2.2⟩ : e = .returned (.string ⟨x.toArray⟩) ∧ RdS w' g p vc vr r3 ∧ OnlyG g W w'))
          cases hd : parseP x with
          | none =>
            have hbad : Hid (∀ W, BelowS g w W → RdPost g (takeR p (a :: n :: x :: r3)) w (.panicked (errP 190)) W) := Lib.hid fun W hb => RdPost.bad (by show (addrF a).bind _ = _; rw [ha]; show (numF n).bind _ = _; rw [hnF]; show (parseP x).map _ = _; rw [hd]; rfl) hb
            have hlab := Lib.hid fun W hT => label_no x W hxl hT hd
            have hgl2 := Lib.hid gotL_no
            clear hS hT hw htn hcz
            go_enter Tryz.func123, Tryz.ntmps123
            go_wp2_with (first
              | (go_at_call 97; refine htk.out.mono ?_; rintro e w2 ⟨rfl, hW2, ho2⟩; have hs2 := ho2.size; have hR2 := Lib.hid (hSt.out _ hW2 ho2); replace ho2 := Lib.hid (below_only hgg ho2 (by omega) (by rintro k rfl; exact Nat.le_refl _)); clear hW2 htk)
              | (go_at_call 97; refine (htk2.out _ hR6.out).mono ?_; rintro e w7 ⟨rfl, hR7, ho7⟩; have hs7 := ho7.size; replace ho7 := Lib.hid (below_only hb6.out ho7 (by omega) (by rintro k rfl; exact Nat.le_refl _)); clear hR7)
              | (go_at_call 18; refine (had.out _).mono ?_; rintro e w3 ⟨rfl, hb3⟩; have hs3 := hb3.size; have hR3 := Lib.hid (hR2.out.below hb3); replace hb3 := Lib.hid (below_to ho2.out hb3 (by omega)))
              | (go_at_call 122; refine (hgo.out _).mono ?_; rintro e w4 ⟨rfl, hb4⟩; have hs4 := hb4.size; have hR4 := Lib.hid (hR3.out.below hb4); replace hb4 := Lib.hid (below_to hb3.out hb4 (by omega)))
              | (go_at_call 124; refine (hnum.out _ hR4.out (hTt.out _ hb4.out)).mono ?_; rintro e w5 ⟨rfl, hR5, hb5⟩; replace hR5 := Lib.hid hR5; have hs5 := hb5.size; replace hb5 := Lib.hid (hb4.out.trans hb5))
              | (refine wpList_build rfl 67 _ rfl [(0, .agg (adrC b).toArray), (1, .int .u32 en)] rfl _ hbuilt.out ?_)
              | (refine wpList_store_blkG rfl 67 _ _ rfl w5.heap.size rfl 67 [.int .u8 0, .int .u8 0, .int .u8 0, .int .u8 0, .int .u8 0, .int .u8 0, .int .u8 0, .int .u8 0, .int .u8 0, .int .u8 0, .int .u8 0, .int .u8 0, .int .u8 0, .int .u8 0, .int .u8 0, .int .u8 0, .int .u8 0, .int .u8 0, .int .u8 0, .int .u8 0, .int .u32 0, .int .u64 0] (relC (b, en, 0)) (BlkG.new w5 _ _) rfl (by rw [hlz]; rfl) (by rw [hlz]; kernel_rfl) honez ?_; intro w6 hB6 ho6; have hb6 := ho6.below (xalloc (xrefl w5) _) (xalloc (xrefl w5) (.cells ([.int .u8 0, .int .u8 0, .int .u8 0, .int .u8 0, .int .u8 0, .int .u8 0, .int .u8 0, .int .u8 0, .int .u8 0, .int .u8 0, .int .u8 0, .int .u8 0, .int .u8 0, .int .u8 0, .int .u8 0, .int .u8 0, .int .u8 0, .int .u8 0, .int .u8 0, .int .u8 0, .int .u32 0, .int .u64 0]).toArray 67)).size (by rintro k rfl; exact Nat.le_refl _); have hs6 := hb6.size; have hR6 := Lib.hid (hR5.out.below hb6); replace hb6 := Lib.hid (below_to hb5.out hb6 (by omega)); clear ho6 hB6)
              | (go_at_call 99; refine (hlab.out _ (hTt.out _ ho7.out).tab).mono ?_; rintro e w8 ⟨rfl, hb8⟩; replace hb8 := Lib.hid (below_to ho7.out hb8 (by omega)))
              | (go_at_call 98; refine (hgl2.out _).mono ?_; rintro e w9 ⟨rfl, rfl⟩))
            exact ⟨rfl, hbad.out _ hb8.out⟩
          | some d =>
            have htc : takeR p (a :: n :: x :: r3) = some ({ p with rels := p.rels ++ [(b, en, d)] }, r3) := by show (addrF a).bind _ = _; rw [ha]; show (numF n).bind _ = _; rw [hnF]; show (parseP x).map _ = _; rw [hd]; rfl
            have hlab := Lib.hid fun W hT => label_ok x d W hxl hT hd
            have hgl2 := Lib.hid (gotL_ok d)
            obtain ⟨nr, hnr⟩ : ∃ k, Hid (k = p.rels.length) := ⟨_, Lib.hid rfl⟩
            obtain ⟨xs, hxs⟩ : ∃ xs, Hid (xs = p.rels.flatMap relC) := ⟨_, Lib.hid rfl⟩
            obtain ⟨ar, cr, rfl⟩ := own_sliceV hS.ow
            rw [← hnr.out] at hl htk htk2 hSt hnum
            have hset := Lib.hid (rel_set b en 0 d hb20)
            clear hS hT hw htn
            go_enter Tryz.func123, Tryz.ntmps123
            go_upto_region 2 with (first
              | (go_at_call 97; refine htk.out.mono ?_; rintro e w2 ⟨rfl, hW2, ho2⟩; have hs2 := ho2.size; have hR2 := Lib.hid (hSt.out _ hW2 ho2); replace ho2 := Lib.hid (below_only hgg ho2 (by omega) (by rintro k rfl; exact Nat.le_refl _)); clear hW2 htk)
              | (go_at_call 97; refine (htk2.out _ hR6.out).mono ?_; rintro e w7 ⟨rfl, hR7, ho7⟩; replace hR7 := Lib.hid hR7; have hs7 := ho7.size; have hB7 := Lib.hid (hB6.out.only ho7.o (by omega)); replace ho7 := Lib.hid (below_only hb6.out ho7 (by omega) (by rintro k rfl; exact Nat.le_refl _)))
              | (go_at_call 18; refine (had.out _).mono ?_; rintro e w3 ⟨rfl, hb3⟩; have hs3 := hb3.size; have hR3 := Lib.hid (hR2.out.below hb3); replace hb3 := Lib.hid (below_to ho2.out hb3 (by omega)))
              | (go_at_call 122; refine (hgo.out _).mono ?_; rintro e w4 ⟨rfl, hb4⟩; have hs4 := hb4.size; have hR4 := Lib.hid (hR3.out.below hb4); replace hb4 := Lib.hid (below_to hb3.out hb4 (by omega)))
              | (go_at_call 124; refine (hnum.out _ hR4.out (hTt.out _ hb4.out)).mono ?_; rintro e w5 ⟨rfl, hR5, hb5⟩; replace hR5 := Lib.hid hR5; have hs5 := hb5.size; replace hb5 := Lib.hid (hb4.out.trans hb5))
              | (refine wpList_build rfl 67 _ rfl [(0, .agg (adrC b).toArray), (1, .int .u32 en)] rfl _ hbuilt.out ?_)
              | (refine wpList_store_blkG rfl 67 _ _ rfl w5.heap.size rfl 67 [.int .u8 0, .int .u8 0, .int .u8 0, .int .u8 0, .int .u8 0, .int .u8 0, .int .u8 0, .int .u8 0, .int .u8 0, .int .u8 0, .int .u8 0, .int .u8 0, .int .u8 0, .int .u8 0, .int .u8 0, .int .u8 0, .int .u8 0, .int .u8 0, .int .u8 0, .int .u8 0, .int .u32 0, .int .u64 0] (relC (b, en, 0)) (BlkG.new w5 _ _) rfl (by rw [hlz]; rfl) (by rw [hlz]; kernel_rfl) honez ?_; intro w6 hB6 ho6; have hb6 := ho6.below (xalloc (xrefl w5) _) (xalloc (xrefl w5) (.cells ([.int .u8 0, .int .u8 0, .int .u8 0, .int .u8 0, .int .u8 0, .int .u8 0, .int .u8 0, .int .u8 0, .int .u8 0, .int .u8 0, .int .u8 0, .int .u8 0, .int .u8 0, .int .u8 0, .int .u8 0, .int .u8 0, .int .u8 0, .int .u8 0, .int .u8 0, .int .u8 0, .int .u32 0, .int .u64 0]).toArray 67)).size (by rintro k rfl; exact Nat.le_refl _); have hs6 := hb6.size; have hR6 := Lib.hid (hR5.out.below hb6); replace hb6 := Lib.hid (below_to hb5.out hb6 (by omega)); replace hB6 := Lib.hid hB6; clear ho6)
              | (go_at_call 99; refine (hlab.out _ (hTt.out _ ho7.out).tab).mono ?_; rintro e w8 ⟨rfl, hb8⟩; have hs8 := hb8.size; have hR8 := Lib.hid (hR7.out.below hb8); have hB8 := hB7.out.below hb8; replace hb8 := Lib.hid (below_to ho7.out hb8 (by omega)); have c8 := blk_cell hB8 hcz; have f8 := hB8.free 21; replace hB8 := Lib.hid hB8)
              | (go_at_call 98; refine (hgl2.out _).mono ?_; rintro e w9 ⟨rfl, rfl⟩))
            obtain ⟨h, hh⟩ : ∃ h, Hid (h = w5.heap.size) := ⟨_, Lib.hid rfl⟩
            rw [← hh.out] at hB8 ⊢
            have hgh : g < h := by rw [hh.out]; omega
            have hh8 : h < w8.heap.size := hB8.out.lt
            have hB9 := hB8.out.set 21 (labV d)
            rw [hset.out] at hB9
            have hon : Only (· = h) w8 (w8.setCell ⟨h, 21, none⟩ (labV d)) := (Only.refl _ _).setCell _ _ rfl
            have hocr : (Value.slice ar nr cr).ownBlock ≠ some h := fun e => by have hlt := (ownB_lt hR5.out.ow e).2; rw [hh.out] at hlt; exact absurd hlt (Nat.lt_irrefl _)
            have hR9 : RdS (w8.setCell ⟨h, 21, none⟩ (labV d)) g p vc (.slice ar nr cr) r3 := by
              refine ⟨hR8.out.wd.only hon (by omega) fun k hk e => ?_, own_onlyG hR8.out.oc hon fun k hk e => ?_, own_onlyG hR8.out.ow hon fun k hk e => hocr (by rw [hk, e]), hR8.out.ok⟩
              · subst e; exact hk.ne hB8.out (by decide) rfl
              · subst e; exact own_neG hR8.out.oc hB8.out (by decide) hk
            have hb9 := below_onlyO hb8.out hon (by omega) (by rintro k rfl; omega) (fun k hk => hk.ne hB8.out (by decide))
            have hs9 := hon.size
            show Code.wp _ _ _ _ (w8.setCell ⟨h, 21, none⟩ (labV d))
            generalize w8.setCell ⟨h, 21, none⟩ (labV d) = w9 at *
            obtain ⟨ys, hys⟩ : ∃ ys, Hid (ys = relC (b, en, d)) := ⟨_, Lib.hid rfl⟩
            rw [← hys.out] at hB9
            have hyl : ys.length = 22 := by rw [hys.out]; exact relC_len ⟨hb20, hb256⟩
            have hone : ∀ u ∈ ys, u.oneCell' = true := by rw [hys.out]; exact List.all_eq_true.1 (relC_one _)
            have hbsl := Lib.hid (bsl_rel b en d hb20)
            rw [← hys.out] at hbsl
            obtain ⟨ic, hic, hzc, hsc, hbc⟩ := info_parts infoR
            generalize hzv : Value.agg (relC (zAdr, 0, 0)).toArray = zc at *
            have hzs : zc.cells.size = 22 := by rw [← hzv]; rfl
            have hocn : w9.ownsRow g 67 22 (.slice ar nr cr) nr xs := by have := hR9.ow; rw [← hnr.out, ← hxs.out] at this; exact this
            have hlo : ∀ k, (k = g ∨ (Value.slice ar nr cr).ownBlock = some k) → g ≤ k := fun k e => by
              rcases e with rfl | e
              · exact Nat.le_refl _
              · exact (ownB_lt hocn e).1
            have hstr : ∀ k, StrB w9 k → ¬ (k = g ∨ (Value.slice ar nr cr).ownBlock = some k) := fun k hk e => by
              rcases e with e | e
              · obtain ⟨_, _, h1, -⟩ := hR9.wd.out
                exact hk.ne h1 (by decide) e
              · exact hk.own hocn (by decide) e
            have hAk : Hid (∀ W, StyO g 67 22 (.slice ar nr cr) nr xs ys w9 W → BlkG W h 67 ys) := Lib.hid fun W hs => hB9.only hs.1 (fun e => e.elim (by omega) hocr)
            have hbS : Hid (∀ W, StyO g 67 22 (.slice ar nr cr) nr xs ys w9 W → BelowS g w W) := Lib.hid fun W hs => below_onlyO hb9 hs.1 (by omega) hlo hstr
            have hoc0 : Hid (∀ W, StyO g 67 22 (.slice ar nr cr) nr xs ys w9 W → W.ownsRow g 67 22 (.slice ar nr cr) nr xs) := Lib.hid fun W hs => hs.2.1 hocn
            obtain ⟨al, cl, hBg, -⟩ := hR9.wd.out
            have hvc := Lib.hid hR9.oc
            have hok := Lib.hid hR9.ok
            have hcl : Hid (∀ (b : Bool) W, BlkG W g 115 (rdC (.slice al r3.length cl) p.dflt vc (.slice ar nr cr)) → W.cell? ⟨g, 3, none⟩ = some (.slice ar nr cr)) := Lib.hid fun _ W h1 => by
              have := h1.cell 3 (by simp [rdC])
              simpa [rdC] using this
            have hvcg : vc.ownBlock ≠ some g := own_neG hvc.out hBg ct_ne
            replace hBg := Lib.hid hBg
            clear hR9 hR8 hR7 hR6 hR5 hR4 hR3 hR2 hB8 hB7 hB6 hB9 hb9 hb8 ho7 hb6 hb5 hb4 hb3 ho2 hon c8 f8 hcz
            generalize hsl : Value.slice al r3.length cl = lv at *
            refine' wp_region_growSR (goesO g 67 22 (.slice ar nr cr) nr xs ys (fun _ W => Hid (BlkG W g 115 (rdC lv p.dflt vc (.slice ar nr cr)))) (fun _ _ => False) 100 (fun _ _ _ h hb => Lib.hid (h.out.below hb))) 9 [fixdS (.pointer (some ⟨g, 0, none⟩)), fixdS (.pointer (some ⟨g, 0, none⟩)), fixdS (.pointer (some ⟨g, 0, none⟩)), fixdS (.pointer (some ⟨g, 1, none⟩)), fixdS (.pointer (some ⟨g, 3, none⟩)), fixdS (.slice ar nr cr), fixdS (.agg ys.toArray), newT g 67 22 (.slice ar nr cr) nr xs ys, ownO g 67 22 (.slice ar nr cr) nr xs ys] (by kernel_rfl) (by kernel_rfl) (Lib.hid hBg.out) (fun x ch W hd h => h.elim) ?_
            simp only [List.take_succ_cons, List.take_zero, List.drop_succ_cons, List.drop_zero]
            try simp only [Act.put, List.setIfInBounds_toArray, List.set_cons_succ, List.set_cons_zero, List.nil_append, List.cons_append]
            apply wpGrowS_fix (.pointer (some ⟨g, 0, none⟩)) rfl rfl rfl
            · intro bq W hS hb hF
              go_simp
              first | exact xrefl W | exact ⟨rfl, xrefl W⟩
            try simp only [Act.put, List.setIfInBounds_toArray, List.set_cons_succ, List.set_cons_zero, List.nil_append, List.cons_append]
            apply wpGrowS_fix (.pointer (some ⟨g, 0, none⟩)) rfl rfl rfl
            · intro bq W hS hb hF
              go_simp
              first | exact xrefl W | exact ⟨rfl, xrefl W⟩
            try simp only [Act.put, List.setIfInBounds_toArray, List.set_cons_succ, List.set_cons_zero, List.nil_append, List.cons_append]
            apply wpGrowS_fix (.pointer (some ⟨g, 0, none⟩)) rfl rfl rfl
            · intro bq W hS hb hF
              go_simp
              first | exact xrefl W | exact ⟨rfl, xrefl W⟩
            try simp only [Act.put, List.setIfInBounds_toArray, List.set_cons_succ, List.set_cons_zero, List.nil_append, List.cons_append]
            apply wpGrowS_fix (.pointer (some ⟨g, 1, none⟩)) rfl rfl rfl
            · intro bq W hS hb hF
              go_simp
              first | exact xrefl W | exact ⟨rfl, xrefl W⟩
            try simp only [Act.put, List.setIfInBounds_toArray, List.set_cons_succ, List.set_cons_zero, List.nil_append, List.cons_append]
            apply wpGrowS_fix (.pointer (some ⟨g, 3, none⟩)) rfl rfl rfl
            · intro bq W hS hb hF
              go_simp
              first | exact xrefl W | exact ⟨rfl, xrefl W⟩
            try simp only [Act.put, List.setIfInBounds_toArray, List.set_cons_succ, List.set_cons_zero, List.nil_append, List.cons_append]
            apply wpGrowS_fix (.slice ar nr cr) rfl rfl rfl
            · intro bq W hS hb hF
              have c := (hcl.out bq W hS.out)
              go_simp
              first | exact xrefl W | exact ⟨rfl, xrefl W⟩
            try simp only [Act.put, List.setIfInBounds_toArray, List.set_cons_succ, List.set_cons_zero, List.nil_append, List.cons_append]
            apply wpGrowS_fix (.agg ys.toArray) rfl rfl rfl
            · intro bq W hS hb hF
              rw [exec_load_blkG 67 _ rfl _ rfl 67 _ _ (hAk.out W hb) Tryz.underlying67 rfl (by rw [hyl]; kernel_rfl)]
              exact ⟨rfl, xrefl W⟩
            try simp only [Act.put, List.setIfInBounds_toArray, List.set_cons_succ, List.set_cons_zero, List.nil_append, List.cons_append]
            refine wpGrowS_any (newT g 67 22 (.slice ar nr cr) nr xs ys) rfl rfl (fun bq W hk0 hS hb hF => ?_) (fun v hv => ?_)
            · rw [exec_bsl 25 _ rfl (.agg ys.toArray) rfl (hbsl.out W)]
              exact ⟨⟨⟨_, rfl⟩, newT_new hS.out.lt (hoc0.out W hb)⟩, StyO.below (xalloc (xrefl W) _), Lib.hid (hS.out.below (xalloc (xrefl W) _))⟩
            obtain ⟨q, rfl⟩ := hv
            try simp only [Act.put, List.setIfInBounds_toArray, List.set_cons_succ, List.set_cons_zero, List.nil_append, List.cons_append]
            refine wpGrowS_any (ownO g 67 22 (.slice ar nr cr) nr xs ys) rfl rfl (fun bq W hk0 hS hb hF => ?_) (fun v hv => ?_)
            · have hq := hF 7 (by kernel_rfl) (by simp)
              obtain ⟨q', eq, hB, hq1, hq2⟩ : NewAt g (.slice ar nr cr) ys 67 (.slice (some ⟨q, 0, none⟩) 1 1) W := hq
              cases eq
              obtain ⟨v', w', hrun, ho, hg', hbk, hk1, hk2⟩ := run_append_own_keep (P := Tryz.prog) W g 25 25 67 ic zc 22 32 Tryz.underlying25 hic hzc hsc hbc hzs (by decide) (.slice ar nr cr) nr xs (hoc0.out W hb) ⟨q, 0, none⟩ 1 1 ys (by rw [hyl]) (fun j u hj => blk_add hB hj) hone (by unfold maxLen; omega) (by omega) (Nat.le_of_lt hS.out.lt)
              rw [exec_append 25 _ _ rfl _ _ rfl rfl hrun]
              exact ⟨⟨own_sliceV ho, ho⟩, StyO.app hg' hk1 hk2, Lib.hid (hS.out.only (only_grown hg') (own_neG (hoc0.out W hb) hS.out rt_ne))⟩
            obtain ⟨a5, c5, rfl⟩ := hv
            try simp only [Act.put, List.setIfInBounds_toArray, List.set_cons_succ, List.set_cons_zero, List.nil_append, List.cons_append]
            refine wpGrowS_nil fun W6 hb6 hS6 hmem => ?_
            have hown : W6.ownsRow g 67 22 (.slice a5 (nr + 1) c5) (nr + 1) (xs ++ ys) := hmem 8 (by decide)
            have hb6 : StyO g 67 22 (.slice ar nr cr) nr xs ys w9 W6 := hb6
            have hS6 : Hid (BlkG W6 g 115 (rdC lv p.dflt vc (.slice ar nr cr))) := hS6
            have hB6 := hS6.out
            have c6 := hB6.cell 3 (by simp [rdC])
            simp only [rdC, List.getElem_cons_succ, List.getElem_cons_zero] at c6
            have f6 := hB6.free 3
            have hBelow := Lib.hid (hbS.out W6 hb6)
            have hsz6 := hb6.1.size
            have hfin : Hid (RdPost g (takeR p (a :: n :: x :: r3)) w (.returned (.tuple #[])) (W6.setCell ⟨g, 3, none⟩ (.slice a5 (nr + 1) c5))) := Lib.hid (by
              have hB7 := hB6.set 3 (.slice a5 (nr + 1) c5)
              have ho7 : Only (· = g) W6 (W6.setCell ⟨g, 3, none⟩ (.slice a5 (nr + 1) c5)) := (Only.refl _ _).setCell _ _ rfl
              have hn1 := own_neG hown hB6 rt_ne
              have hvc6 : W6.ownsRow g 65 21 vc p.clears.length (p.clears.flatMap clearC) := own_onlyG hvc.out hb6.1 fun k hk e => by
                rcases e with rfl | e
                · exact hvcg hk
                · exact own_two hvc.out (hoc0.out w9 (StyO.refl _)) (by decide) (hk.trans e.symm) hk
              have hn2 := own_neG hvc6 hB6 ct_ne
              rw [← hsl] at hB7
              refine RdPost.good htc ⟨⟨al, cl, _, _, hB7, ?_, ?_⟩, ⟨hok.out.c, fun y hy => ?_⟩⟩ (below_only hBelow.out ⟨ho7, fun k hk => hk.ne hB6 (by decide)⟩ (by omega) (by rintro k rfl; exact Nat.le_refl _))
              · exact own_onlyG hvc6 ho7 fun k hk e => hn2 (by rw [hk, e])
              · show World.ownsRow _ g _ 22 _ (p.rels ++ [(b, en, d)]).length ((p.rels ++ [(b, en, d)]).flatMap relC)
                rw [List.length_append, List.flatMap_append, ← hnr.out, ← hxs.out]
                have : [(b, en, d)].flatMap relC = ys := by rw [hys.out]; simp
                rw [this]
                exact own_onlyG hown ho7 fun k hk e => hn1 (by rw [hk, e])
              · rcases List.mem_append.1 hy with hy | hy
                · exact hok.out.r y hy
                · simp only [List.mem_singleton] at hy
                  subst hy
                  exact ⟨⟨hb20, hb256⟩, hen⟩)
            clear hB6 hown hb6 hmem hBelow hS6
            go_wp2
            go_end0
            exact hfin.out
end Go.Proofs.YthpallkphamobaaGreatDoor
namespace Go.Proofs.YthpallkphamobaaGreatDoor
open Go.RowKit

/-- The entries of a map that was filled in the order of the list. -/
def entG : Nat → List (Value × Value) → List MapEntry
  | _, [] => []
  | i, x :: l => { key := x.1, val := x.2, born := i } :: entG (i + 1) l
def mapG (l : List (Value × Value)) : Obj := .map (entG 0 l).toArray l.length
theorem entG_append : ∀ (l l' : List (Value × Value)) (i : Nat), entG i (l ++ l') = entG i l ++ entG (i + l.length) l'
  | [], l', i => by simp [entG]
  | x :: l, l', i => by simp only [List.cons_append, entG, entG_append l l' (i + 1), List.length_cons]; rw [show i + 1 + l.length = i + (l.length + 1) by omega]
theorem checkKey_str' {P : Program} {k : TypeId} (hk : P.underlying k = some .string) (b : Bool) (s : ByteArray) (m : Nat) (w : World) : (Instr.checkKey b (m + 1) k (.string s)).run P w = .ok () w := by
  simp [Instr.checkKey, run_underlying hk, Sem.run_bind]
/-- A new entry with a text as its key. -/
theorem run_putS {P : Program} {t k e : TypeId} (ht : P.underlying t = some (.map k e)) (hk : P.underlying k = some .string) (s : ByteArray) (v : Value) (w : World) (b : Nat) (l : List (Value × Value)) (hb : w.heap[b]? = some (mapG l))
    (hn : Instr.findNow .string (.string s) (entG 0 l) 0 = some none) : (Instr.mapUpdate t (.map (some b)) (.string s) v).run P w = .ok () (w.putObj b (mapG (l ++ [(.string s, v)]))) := by
  unfold mapG at hb
  have hc : (Instr.checkKey false 10000 k (.string s)).run P w = .ok () w := checkKey_str' hk false s 9999 w
  have hf : (Instr.findKey k (.string s) (entG 0 l)).run P w = .ok none w := by
    simp [Instr.findKey, run_underlying hk, Sem.run_bind, hn]
  simp only [Instr.mapUpdate, run_underlying ht, Sem.run_bind, Result.andThen_ok, getObj, setObj, Sem.run, hb, hc, hf]
  show Result.ok () (w.putObj b _) = _
  congr 2
  simp [mapG, entG_append, entG]
end Go.Proofs.YthpallkphamobaaGreatDoor
namespace Go.Proofs.YthpallkphamobaaGreatDoor
open Go.RowKit Go.Shelf

def rdsL : List (Value × Value) := [(.string ⟨#[99, 108, 101, 97, 114]⟩, .func (.func 121) #[] #[]), (.string ⟨#[114, 101, 108, 101, 97, 115, 101]⟩, .func (.func 123) #[] #[])]
theorem putObj_new (w : World) (o o' : Obj) : (w.alloc o).putObj w.heap.size o' = w.alloc o' := by
  show ({ heap := (w.heap.push o).setIfInBounds w.heap.size o', tape := w.tape, drawn := w.drawn, os := w.os, output := w.output } : World) = { heap := w.heap.push o', tape := w.tape, drawn := w.drawn, os := w.os, output := w.output }
  congr 1
  apply Array.ext
  · simp
  · intro i h1 h2
    simp only [Array.size_setIfInBounds, Array.size_push] at h1
    by_cases hi : i = w.heap.size
    · subst hi; simp
    · have hlt : i < w.heap.size := by omega
      rw [Array.getElem_setIfInBounds (by simpa using h1)]
      simp [Array.getElem_push, hlt, Ne.symm hi]
set_option maxRecDepth 100000 in
set_option maxHeartbeats 4000000 in
theorem reads_any (w : World) : Calls Tryz.prog 100 #[] w fun e w' => ∃ b, e = .returned (.map (some b)) ∧ w'.heap[b]? = some (mapG rdsL) ∧ Below w.heap.size w w' := by
  have hmm : ∀ w, (Instr.makeMap 151 none).run Tryz.prog w = .ok (.map (some w.heap.size)) (w.alloc (mapG [])) := fun _ => rfl
  have h1 := run_putS (P := Tryz.prog) Tryz.underlying151 Tryz.underlying9 ⟨#[99, 108, 101, 97, 114]⟩ (.func (.func 121) #[] #[]) (w.alloc (mapG [])) w.heap.size [] (World.alloc_heap_new w _) (by kernel_rfl)
  have h2 := run_putS (P := Tryz.prog) Tryz.underlying151 Tryz.underlying9 ⟨#[114, 101, 108, 101, 97, 115, 101]⟩ (.func (.func 123) #[] #[]) (w.alloc (mapG ([] ++ [(.string ⟨#[99, 108, 101, 97, 114]⟩, .func (.func 121) #[] #[])]))) w.heap.size _ (World.alloc_heap_new w _) (by kernel_rfl)
  rw [putObj_new] at h1 h2
  generalize hm0 : mapG [] = m0 at *
  generalize hm1 : mapG ([] ++ [(Value.string ⟨#[99, 108, 101, 97, 114]⟩, Value.func (.func 121) #[] #[])]) = m1 at *
  have hm2 : mapG (([] ++ [(Value.string ⟨#[99, 108, 101, 97, 114]⟩, Value.func (.func 121) #[] #[])]) ++ [(Value.string ⟨#[114, 101, 108, 101, 97, 115, 101]⟩, Value.func (.func 123) #[] #[])]) = mapG rdsL := rfl
  rw [hm2] at h2
  clear hm0 hm1 hm2
  go_enter Tryz.func100, Tryz.ntmps100
  go_wp2
  go_ret
  exact ⟨_, rfl, World.alloc_heap_new w _, xalloc (xrefl w) _⟩
theorem bytes_beqP (a b : List UInt8) : ((⟨a.toArray⟩ : ByteArray) == ⟨b.toArray⟩) = (a == b) := by
  show (a.toArray == b.toArray) = (a == b)
  rw [Bool.eq_iff_iff, beq_iff_eq, beq_iff_eq]
  simp
/-- What is looked up among them. -/
def rdsF (s : List UInt8) : Option FuncId := if s = wClear then some 121 else if s = wRelease then some 123 else none
def rdsV (o : Option FuncId) : Value := .tuple #[match o with | some f => .func (.func f) #[] #[] | none => .nilFunc, .bool o.isSome]
theorem run_lookR (s : List UInt8) (w : World) (b : Nat) (hb : w.heap[b]? = some (mapG rdsL)) :
    (Instr.lookup 151 (.map (some b)) (.string ⟨s.toArray⟩) true).run Tryz.prog w = .ok (rdsV (rdsF s)) w := by
  have hf : (Instr.findKey 9 (.string ⟨s.toArray⟩) (entG 0 rdsL)).run Tryz.prog w = .ok (if s = wClear then some (0, .func (.func 121) #[] #[]) else if s = wRelease then some (1, .func (.func 123) #[] #[]) else none) w := by
    have h1 : (⟨#[99, 108, 101, 97, 114]⟩ : ByteArray) = ⟨wClear.toArray⟩ := rfl
    have h2 : (⟨#[114, 101, 108, 101, 97, 115, 101]⟩ : ByteArray) = ⟨wRelease.toArray⟩ := rfl
    simp only [Instr.findKey, run_underlying Tryz.underlying9, Sem.run_bind, Result.andThen_ok, rdsL, entG, Instr.findNow, Instr.sameNow, h1, h2, bytes_beqP]
    by_cases e1 : s = wClear
    · simp [e1]
    · by_cases e2 : s = wRelease
      · have e3 : (wRelease == wClear) = false := by decide
        have e4 : wRelease ≠ wClear := fun e => clear_ne e.symm
        subst e2
        simp [e3, e4]
      · have e3 : (s == wClear) = false := by simpa using e1
        have e4 : (s == wRelease) = false := by simpa using e2
        simp [e3, e4, e1, e2]
  unfold mapG at hb
  have hc : ∀ b, (Instr.checkKey b 10000 9 (.string ⟨s.toArray⟩)).run Tryz.prog w = .ok () w := fun b => checkKey_str' Tryz.underlying9 b _ 9999 w
  simp only [Instr.lookup, run_underlying Tryz.underlying151, Sem.run_bind, Result.andThen_ok, getObj, Sem.run, hb]
  simp [hc, hf]
  unfold rdsF
  by_cases e1 : s = wClear
  · simp [e1, rdsV]
  · by_cases e2 : s = wRelease
    · have e3 : wRelease ≠ wClear := fun e => clear_ne e.symm
      simp [e2, e3, rdsV]
    · have hz : ∀ w, (zeroValue 149).run Tryz.prog w = .ok .nilFunc w := fun _ => by kernel_rfl
      simp [e1, e2, rdsV, hz]
end Go.Proofs.YthpallkphamobaaGreatDoor
