/- Texts of this claim, merged; no condition. -/
import Derived.Test.YthpallkphamobaaGreatDoorJ30
set_option linter.all false
namespace Go.Proofs.YthpallkphamobaaGreatDoor
open Go.RowKit Go.Shelf

theorem own_otherP {w w' : World} {B B' e e' s s' n n' : Nat} {v v' : Value} {xs xs' : List Value} (h : w.ownsRow B e s v n xs) (h' : w.ownsRow B' e' s' v' n' xs') (ne : e ≠ e') (hg : w.grownBy w' v'.ownBlock) : w'.ownsRow B e s v n xs :=
  own_onlyG h (only_grown hg) fun k hk hk' => own_two h h' ne (by rw [hk, hk']) hk
def polW (p : PolN) (vc vr : Value) : Value := .agg #[labV p.dflt, vc, vr]
/-- A policy whose rows are the call's own, from g on. -/
structure PolO (g : Nat) (W : World) (p : PolN) (vc vr : Value) : Prop where
  oc : W.ownsRow g 65 21 vc p.clears.length (p.clears.flatMap clearC)
  ow : W.ownsRow g 67 22 vr p.rels.length (p.rels.flatMap relC)
  ok : p.Ok
theorem PolO.below {g : Nat} {W W' : World} {p : PolN} {vc vr : Value} (h : PolO g W p vc vr) (hb : Below W.heap.size W W') : PolO g W' p vc vr := ⟨own_belowV h.oc hb, own_belowV h.ow hb, h.ok⟩
def DnPost (g : Nat) (o : Option PolN) (vc0 vr0 : Value) (w : World) (e : Ending) (w' : World) : Prop := Only (fun k => vc0.ownBlock = some k ∨ vr0.ownBlock = some k) w w' ∧ match o with
  | none => ∃ v1 v2 v3, e = .returned (.tuple #[.agg #[v1, v2, v3], .bool false]) ∧ [v1, v2, v3].all (·.oneCell') = true
  | some q => ∃ vc vr, e = .returned (.tuple #[polW q vc vr, .bool true]) ∧ PolO g w' q vc vr
theorem DnPost.no {g : Nat} {o : Option PolN} {vc0 vr0 : Value} {w W : World} (h : o = none) (v1 v2 v3 : Value) (hb : Below w.heap.size w W) (h1 : [v1, v2, v3].all (·.oneCell') = true) : DnPost g o vc0 vr0 w (.returned (.tuple #[.agg #[v1, v2, v3], .bool false])) W := by subst h; exact ⟨Below.only hb, v1, v2, v3, rfl, h1⟩
theorem DnPost.yes {g : Nat} {o : Option PolN} {q : PolN} {vc0 vr0 : Value} {w W : World} {vc vr : Value} (h : o = some q) (hO : PolO g W q vc vr) (hb : Only (fun k => vc0.ownBlock = some k ∨ vr0.ownBlock = some k) w W) : DnPost g o vc0 vr0 w (.returned (.tuple #[polW q vc vr, .bool true])) W := by subst h; exact ⟨hb, vc, vr, rfl, hO⟩
theorem only_new {O O' : Nat → Prop} {w W W' : World} (h : Only O w W) (h2 : Only O' W W') (hO : ∀ k, O' k → w.heap.size ≤ k) : Only O w W' := ⟨h2.os.trans h.os, h2.tape.trans h.tape, h2.output.trans h.output, Nat.le_trans h.size h2.size, fun k hk hn => (h2.same k (Nat.lt_of_lt_of_le hk h.size) (fun e => by have := hO k e; omega)).trans (h.same k hk hn)⟩
theorem refLab_ok (x : List UInt8) (a : BitVec 64) (w : World) (hx : x.length ≤ 65536) (h : parseP x = some a) : Calls Tryz.prog 101 #[.string ⟨x.toArray⟩] w fun e w' => e = .returned (.tuple #[.int .u64 (iv64 a), .bool true]) ∧ Below w.heap.size w w' := (refParse_any ⟨x.toArray⟩ w (by show x.toArray.size ≤ _; simp; omega)).mono fun e w' h' => ⟨by rw [h'.1]; show Ending.returned (parR (parseR x)) = _; rw [← parse_eq, h]; rfl, h'.2⟩
theorem refLab_no (x : List UInt8) (w : World) (hx : x.length ≤ 65536) (h : parseP x = none) : Calls Tryz.prog 101 #[.string ⟨x.toArray⟩] w fun e w' => e = .returned (.tuple #[.int .u64 0, .bool false]) ∧ Below w.heap.size w w' := (refParse_any ⟨x.toArray⟩ w (by show x.toArray.size ≤ _; simp; omega)).mono fun e w' h' => ⟨by rw [h'.1]; show Ending.returned (parR (parseR x)) = _; rw [← parse_eq, h]; rfl, h'.2⟩
theorem refAdr_ok (x : List UInt8) (a : List Nat) (w : World) (hx : x.length ≤ 65536) (h : addrF x = some a) : Calls Tryz.prog 19 #[.string ⟨x.toArray⟩] w fun e w' => e = .returned (.tuple #[.agg (adrC a).toArray, .bool true]) ∧ Below w.heap.size w w' := (refAddress_any x w (by omega)).mono fun e w' h' => ⟨by rw [h'.1, h]; rfl, h'.2⟩
theorem refAdr_no (x : List UInt8) (w : World) (hx : x.length ≤ 65536) (h : addrF x = none) : Calls Tryz.prog 19 #[.string ⟨x.toArray⟩] w fun e w' => e = .returned (.tuple #[.agg (adrC zAdr).toArray, .bool false]) ∧ Below w.heap.size w w' := (refAddress_any x w (by omega)).mono fun e w' h' => ⟨by rw [h'.1, h]; rfl, h'.2⟩
theorem refNum_ok (x : List UInt8) (n : Nat) (w : World) (hx : x.length ≤ 65536) (h : numF x = some n) : Calls Tryz.prog 102 #[.string ⟨x.toArray⟩] w fun e w' => e = .returned (.tuple #[.int .u32 n, .bool true]) ∧ Below w.heap.size w w' := (refNumF_any x w (by omega)).mono fun e w' h' => ⟨by rw [h'.1, h]; rfl, h'.2⟩
theorem refNum_no (x : List UInt8) (w : World) (hx : x.length ≤ 65536) (h : numF x = none) : Calls Tryz.prog 102 #[.string ⟨x.toArray⟩] w fun e w' => e = .returned (.tuple #[.int .u32 0, .bool false]) ∧ Below w.heap.size w w' := (refNumF_any x w (by omega)).mono fun e w' h' => ⟨by rw [h'.1, h]; rfl, h'.2⟩
theorem last_get (l : List (List UInt8)) (m : Nat) (h : l.length = m + 1) : ∃ hm : m < l.length, l.getLastD [] = l[m] := by
  refine ⟨by omega, ?_⟩
  have h1 : l[l.length - 1]? = l[m]? := by rw [h]; rfl
  rw [List.getLastD_eq_getLast?, List.getLast?_eq_getElem?, h1, List.getElem?_eq_getElem (by omega)]
  rfl
theorem head_get (l : List (List UInt8)) (h : 0 < l.length) : l.headD [] = l[0] := by
  cases l with
  | nil => simp at h
  | cons x r => rfl
theorem getD_get (l : List (List UInt8)) (j : Nat) (h : j < l.length) : l.getD j [] = l[j] := by simp [h]
theorem ofA_adr {x : List UInt8} {a : List Nat} (h : addrF x = some a) : Adr a := by obtain ⟨-, h2, h3⟩ := addr_some h; exact ⟨h3, h2⟩
theorem PolO.addC {g : Nat} {W W' : World} {p : PolN} {vc vr v' : Value} {a : List Nat} {x : BitVec 64} (h : PolO g W p vc vr) (ha : Adr a) (ho : W'.ownsRow g 65 21 v' (p.clears.length + 1) (p.clears.flatMap clearC ++ clearC (a, x))) (hg : W.grownBy W' vc.ownBlock) : PolO g W' { p with clears := p.clears ++ [(a, x)] } v' vr :=
  ⟨by simpa using ho, own_otherP h.ow h.oc (by decide) hg, ⟨fun y hy => by
    rcases List.mem_append.1 hy with h1 | h1
    · exact h.ok.c y h1
    · rw [List.mem_singleton.1 h1]; exact ⟨ha.len, ha.ok⟩, h.ok.r⟩⟩
theorem PolO.addR {g : Nat} {W W' : World} {p : PolN} {vc vr v' : Value} {a : List Nat} {n : Nat} {x : BitVec 64} (h : PolO g W p vc vr) (ha : Adr a) (hn : n < 4294967296) (ho : W'.ownsRow g 67 22 v' (p.rels.length + 1) (p.rels.flatMap relC ++ relC (a, n, x))) (hg : W.grownBy W' vr.ownBlock) : PolO g W' { p with rels := p.rels ++ [(a, n, x)] } vc v' :=
  ⟨own_otherP h.oc h.ow (by decide) hg, by simpa using ho, ⟨h.ok.c, fun y hy => by
    rcases List.mem_append.1 hy with h1 | h1
    · exact h.ok.r y h1
    · rw [List.mem_singleton.1 h1]; exact ⟨⟨ha.len, ha.ok⟩, hn⟩⟩⟩
theorem adrC_one (a : List Nat) : (adrC a).all (·.oneCell') = true := by simp [adrC, Value.oneCell']
theorem PolO.oth {g b : Nat} {W W' : World} {p : PolN} {vc vr : Value} {vs : List Value} (h : PolO g W p vc vr) (hB : BlkG W b 27 vs) (ho : Only (· = b) W W') : PolO g W' p vc vr :=
  ⟨own_onlyG h.oc ho fun k hk e => own_neG h.oc hB ct_neP (by rw [hk, e]), own_onlyG h.ow ho fun k hk e => own_neG h.ow hB rt_neP (by rw [hk, e]), h.ok⟩
set_option maxRecDepth 100000 in
set_option maxHeartbeats 16000000 in
theorem refLine_any (g : Nat) (p : PolN) (vc vr : Value) (s : List UInt8) (first : Bool) (w : World) (h : PolO g w p vc vr) (hg : g ≤ w.heap.size) (hs : s.length ≤ 65536) (hn1 : p.clears.length ≤ 100000) (hn2 : p.rels.length ≤ 100000) :
    Calls Tryz.prog 64 #[polW p vc vr, .string ⟨s.toArray⟩, .bool first] w (DnPost g (lineF p first (splS 32 s)) vc vr w) := by
  have hvc := fun k hk => (h.oc.lt k hk).2
  have hvr := fun k hk => (h.ow.lt k hk).2
  obtain ⟨ca, cc, rfl⟩ := own_sliceV h.oc
  obtain ⟨ra, rc, rfl⟩ := own_sliceV h.ow
  rw [lineK_eq p first _ (spl_ne 32 s)]
  have hsp := Lib.hid fun W => refSplit_any 32 s W (by omega)
  obtain ⟨hsl, hsw⟩ := spl_sizeP 32 s
  have hne := spl_ne 32 s
  generalize splS 32 s = L at *
  obtain ⟨m, hm⟩ : ∃ m, L.length = m + 1 := ⟨L.length - 1, by cases L with
    | nil => exact absurd rfl hne
    | cons x r => simp⟩
  obtain ⟨hmL, hlast⟩ := last_get L m hm
  have hhead := head_get L (by omega)
  have hLx : ∀ j (hj : j < L.length), L[j].length ≤ 65536 := fun j hj => Nat.le_trans (hsw _ (List.getElem_mem hj)) hs
  have hm2 : m ≤ 65536 := by omega
  have hwk : IntKind.i64.wrap (((m + 1 : Nat) : Int) - 1) = (m : Int) := by simp [IntKind.wrap, IntKind.bits, IntKind.signed]; omega
  have hP : BlkG ((w.alloc (.cells #[labV p.dflt, .slice ca p.clears.length cc, .slice ra p.rels.length rc] 27)).alloc (.cells #[.int .u64 0, .slice none 0 0, .slice none 0 0] 27)) w.heap.size 27 [labV p.dflt, .slice ca p.clears.length cc, .slice ra p.rels.length rc] := (BlkG.new w _ [labV p.dflt, .slice ca p.clears.length cc, .slice ra p.rels.length rc]).alloc _
  have hR : BlkG ((w.alloc (.cells #[labV p.dflt, .slice ca p.clears.length cc, .slice ra p.rels.length rc] 27)).alloc (.cells #[.int .u64 0, .slice none 0 0, .slice none 0 0] 27)) (w.heap.size + 1) 27 [.int .u64 0, .slice none 0 0, .slice none 0 0] := by
    have := BlkG.new (w.alloc (.cells #[labV p.dflt, .slice ca p.clears.length cc, .slice ra p.rels.length rc] 27)) 27 [.int .u64 0, .slice none 0 0, .slice none 0 0]
    rwa [World.size_alloc] at this
  have hb0 : Below w.heap.size w ((w.alloc (.cells #[labV p.dflt, .slice ca p.clears.length cc, .slice ra p.rels.length rc] 27)).alloc (.cells #[.int .u64 0, .slice none 0 0, .slice none 0 0] 27)) := xalloc (xalloc (xrefl w) _) _
  have hO := Lib.hid h
  clear h hsw hne
  generalize hoo : lineK p first L = o
  have hK := hoo
  unfold lineK at hK
  rw [hm, hlast, hhead] at hK
  replace hK := Lib.hid hK
  replace hoo := Lib.hid hoo
  unfold polW
  go_enter Tryz.func64, Tryz.ntmps64
  go_upto_region 1 with fail
  generalize (w.alloc (.cells #[labV p.dflt, .slice ca p.clears.length cc, .slice ra p.rels.length rc] 27)).alloc (.cells #[.int .u64 0, .slice none 0 0, .slice none 0 0] 27) = w2 at *
  have hO2 := Lib.hid (hO.out.below hb0)
  have hz2 := hR.lt
  replace hP := Lib.hid hP
  replace hR := Lib.hid hR
  replace hb0 := Lib.hid hb0
  go_upto_region 2 with (go_at_call 63; refine (hsp.out _).mono ?_; rintro e w3 ⟨⟨v3, rfl, hown3⟩, hb3⟩; obtain ⟨la, lc, rfl⟩ := own_sliceV hown3; have hz3 := hb3.size)
  obtain ⟨x3, y3, e3, hrow3, -⟩ := rowV_own hown3
  cases e3
  obtain ⟨lb, lo, hla, hcl⟩ : ∃ lb lo, la = some ⟨lb, lo, none⟩ ∧ Hid (∀ W, Below w3.heap.size w3 W → ∀ j (hj : j < L.length), W.cell? ⟨lb, lo + j, none⟩ = some (.string ⟨(L[j]).toArray⟩)) := by
    obtain ⟨lb, lo, e, -⟩ := hrow3 0 (by simp; omega)
    refine ⟨lb, lo, e, Lib.hid fun W hb j hj => ?_⟩
    obtain ⟨b1, o1, e1, c1⟩ := hrow3 j (by simpa using hj)
    rw [e] at e1
    cases e1
    have := cbel hb c1
    simpa [sV] using this
  subst hla
  have hP3 := Lib.hid (hP.out.below hb3)
  have hR3 := Lib.hid (hR.out.below hb3)
  have hO3 := Lib.hid (hO2.out.below hb3)
  have hb03 := Lib.hid (xtrans hb0.out hb3)
  clear hown3 hrow3 hP hR hO hO2 hb0 hb3 hsp
  have hmI : (m : Int) < ((m + 1 : Nat) : Int) := by omega
  have h0I : (0 : Int) < ((m + 1 : Nat) : Int) := by omega
  have cm := hcl.out w3 (xrefl _) m hmL
  have c0 := hcl.out w3 (xrefl _) 0 (by omega)
  rw [Nat.add_zero] at c0
  have hll := hLx m hmL
  go_upto_region 3 with fail
  cases hpx : parseP L[m] with
  | none =>
    replace hK := Lib.hid (show none = o by have h := hK.out; rw [hpx] at h; exact h)
    have hlab := Lib.hid fun W => refLab_no L[m] W hll hpx
    replace hpx := Lib.hid hpx
    generalize L[m] = lm at *
    go_wp2_with (first
          | (go_at_call 101; refine (hlab.out _).mono ?_; rintro e w4 ⟨rfl, hb4⟩; have hP4 := Lib.hid (hP3.out.below hb4); have hR4 := Lib.hid (hR3.out.below hb4); have hO4 := Lib.hid (hO3.out.below hb4); have hz4 := hb4.size; have hb04 := Lib.hid (xtrans hb03.out hb4); replace hb4 := Lib.hid hb4)
          | (refine wpList_load_mid rfl 27 _ rfl w.heap.size 0 rfl [labV p.dflt, .slice ca p.clears.length cc, .slice ra p.rels.length rc] _ (BlkG.range hP4.out) Tryz.underlying27 rfl (by kernel_rfl) ?_)
          | (refine wpList_store_blkG rfl 27 _ _ rfl (w.heap.size + 1) rfl 27 [.int .u64 0, .slice none 0 0, .slice none 0 0] [labV p.dflt, .slice ca p.clears.length cc, .slice ra p.rels.length rc] hR4.out rfl rfl (by kernel_rfl) (by rfl) ?_; intro w9 hBw9 how9; have hbw9 := Lib.hid (how9.below hb04.out (by have := Below.size hb04.out; omega) (by rintro q rfl; omega)); replace hBw9 := Lib.hid hBw9; clear how9))
    exact bodyPost_ret (results_blkG2 (p := 6) (r := 7) rfl _ _ (w.heap.size + 1) 27 _ _ rfl hBw9.out Tryz.underlying27 rfl (by kernel_rfl)) rfl (DnPost.no hK.out.symm _ _ _ hbw9.out rfl)
  | some x =>
    replace hK := hK.out
    rw [hpx] at hK
    simp only [] at hK
    replace hK := Lib.hid hK
    have hlab := Lib.hid fun W => refLab_ok L[m] x W hll hpx
    replace hpx := Lib.hid hpx
    generalize L[m] = lm at *
    go_upto_region 4 with (go_at_call 101; refine (hlab.out _).mono ?_; rintro e w4 ⟨rfl, hb4⟩; have hP4 := Lib.hid (hP3.out.below hb4); have hR4 := Lib.hid (hR3.out.below hb4); have hO4 := Lib.hid (hO3.out.below hb4); have hz4 := hb4.size; have hb04 := Lib.hid (xtrans hb03.out hb4); replace hb4 := Lib.hid hb4)
    have hcl4 := Lib.hid fun j hj => hcl.out w4 hb4.out j hj
    have c04 := hcl4.out 0 (by omega)
    rw [Nat.add_zero] at c04
    have hb34 := hb4
    clear hP3 hR3 hO3 hb03 cm c0 hlab hb4
    obtain ⟨l0, hl0⟩ : ∃ l0, l0 = L[0] := ⟨_, rfl⟩
    replace hK := hK.out
    rw [← hl0] at c04 hK
    replace hK := Lib.hid hK
    by_cases hfd : first = decide (l0 = wDefault)
    · replace hK := hK.out
      rw [if_neg (by simpa using hfd)] at hK
      replace hK := Lib.hid hK
      by_cases hf : first = true
      · subst hf
        have hd0 : l0 = wDefault := by simpa using hfd.symm
        have hq0 : (l0 == [100, 101, 102, 97, 117, 108, 116]) = true := by rw [hd0]; rfl
        replace hK := hK.out
        rw [if_pos rfl] at hK
        replace hK := Lib.hid hK
        have c1 := blk_cell hP4.out (i := 0) rfl
        have f1 := hP4.out.free 0
        have hP5 := hP4.out.set 0 (labV x)
        simp only [List.set_cons_zero] at hP5
        have ho5 : Only (· = w.heap.size) w4 (w4.setCell ⟨w.heap.size, 0, none⟩ (labV x)) := (Only.refl _ _).setCell _ _ rfl
        have hR5 := Lib.hid (hR4.out.only ho5 (by omega))
        have hb05 := Lib.hid (ho5.below hb04.out hb04.out.size (by rintro q rfl; exact Nat.le_refl _))
        have hO5 := Lib.hid (show PolO g (w4.setCell ⟨w.heap.size, 0, none⟩ (labV x)) { p with dflt := x } _ _ from ⟨own_onlyG hO4.out.oc ho5 fun k hk e => by have := hvc k hk; omega, own_onlyG hO4.out.ow ho5 fun k hk e => by have := hvr k hk; omega, ⟨hO4.out.ok.c, hO4.out.ok.r⟩⟩)
        replace hP5 := Lib.hid hP5
        replace hfd := Lib.hid hfd
        replace hl0 := Lib.hid hl0
        replace hd0 := Lib.hid hd0
        clear ho5
        unfold labV at c1 hP5 hR5 hb05 hO5
        by_cases hm1 : m = 1
        · have hm1I : (m : Int) = 1 := by omega
          replace hK := hK.out
          rw [if_pos (by omega)] at hK
          replace hK := Lib.hid hK
          replace hm1 := Lib.hid hm1
          go_wp2_with (first
                      | (refine wpList_load_mid rfl 27 _ rfl w.heap.size 0 rfl [.int .u64 (iv64 x), .slice ca p.clears.length cc, .slice ra p.rels.length rc] _ (BlkG.range hP5.out) Tryz.underlying27 rfl (by kernel_rfl) ?_)
                      | (refine wpList_store_blkG rfl 27 _ _ rfl (w.heap.size + 1) rfl 27 [.int .u64 0, .slice none 0 0, .slice none 0 0] [.int .u64 (iv64 x), .slice ca p.clears.length cc, .slice ra p.rels.length rc] hR5.out rfl rfl (by kernel_rfl) (by rfl) ?_; intro w9 hBw9 how9; have hO9 := Lib.hid (show PolO g w9 { p with dflt := x } _ _ from ⟨own_onlyG hO5.out.oc how9 fun k hk e => by have := hvc k hk; omega, own_onlyG hO5.out.ow how9 fun k hk e => by have := hvr k hk; omega, hO5.out.ok⟩); have hbw9 := Lib.hid (how9.below hb05.out (by have := Below.size hb05.out; omega) (by rintro q rfl; omega)); replace hBw9 := Lib.hid hBw9; clear how9))
          exact bodyPost_ret (results_blkG2 (p := 6) (r := 7) rfl _ _ (w.heap.size + 1) 27 _ _ rfl hBw9.out Tryz.underlying27 rfl (by kernel_rfl)) rfl (DnPost.yes hK.out.symm hO9.out (Below.only hbw9.out))
        · have hm1I : ((m : Int) == 1) = false := by rw [beq_eq_false_iff_ne]; omega
          replace hK := hK.out
          rw [if_neg (by omega)] at hK
          replace hK := Lib.hid hK
          go_wp2_with (first
                      | (refine wpList_load_mid rfl 27 _ rfl w.heap.size 0 rfl [.int .u64 (iv64 x), .slice ca p.clears.length cc, .slice ra p.rels.length rc] _ (BlkG.range hP5.out) Tryz.underlying27 rfl (by kernel_rfl) ?_)
                      | (refine wpList_store_blkG rfl 27 _ _ rfl (w.heap.size + 1) rfl 27 [.int .u64 0, .slice none 0 0, .slice none 0 0] [.int .u64 (iv64 x), .slice ca p.clears.length cc, .slice ra p.rels.length rc] hR5.out rfl rfl (by kernel_rfl) (by rfl) ?_; intro w9 hBw9 how9; have hbw9 := Lib.hid (how9.below hb05.out (by have := Below.size hb05.out; omega) (by rintro q rfl; omega)); replace hBw9 := Lib.hid hBw9; clear how9))
          exact bodyPost_ret (results_blkG2 (p := 6) (r := 7) rfl _ _ (w.heap.size + 1) 27 _ _ rfl hBw9.out Tryz.underlying27 rfl (by kernel_rfl)) rfl (DnPost.no hK.out.symm _ _ _ hbw9.out rfl)
      · obtain rfl : first = false := by simpa using hf
        have hd0 : l0 ≠ wDefault := by simpa using hfd.symm
        have hq0 : (l0 == [100, 101, 102, 97, 117, 108, 116]) = false := by rw [beq_eq_false_iff_ne]; exact hd0
        replace hK := hK.out
        rw [if_neg (by decide)] at hK
        replace hK := Lib.hid hK
        replace hfd := Lib.hid hfd
        replace hl0 := Lib.hid hl0
        clear hf
        by_cases hm2 : m < 2
        · have hm2I : (m : Int) < 2 := by omega
          replace hK := hK.out
          rw [if_pos (by omega)] at hK
          replace hK := Lib.hid hK
          clear hd0
          go_wp2_with (first
                      | (refine wpList_load_mid rfl 27 _ rfl w.heap.size 0 rfl [labV p.dflt, .slice ca p.clears.length cc, .slice ra p.rels.length rc] _ (BlkG.range hP4.out) Tryz.underlying27 rfl (by kernel_rfl) ?_)
                      | (refine wpList_store_blkG rfl 27 _ _ rfl (w.heap.size + 1) rfl 27 [.int .u64 0, .slice none 0 0, .slice none 0 0] [labV p.dflt, .slice ca p.clears.length cc, .slice ra p.rels.length rc] hR4.out rfl rfl (by kernel_rfl) (by rfl) ?_; intro w9 hBw9 how9; have hbw9 := Lib.hid (how9.below hb04.out (by have := Below.size hb04.out; omega) (by rintro q rfl; omega)); replace hBw9 := Lib.hid hBw9; clear how9))
          exact bodyPost_ret (results_blkG2 (p := 6) (r := 7) rfl _ _ (w.heap.size + 1) 27 _ _ rfl hBw9.out Tryz.underlying27 rfl (by kernel_rfl)) rfl (DnPost.no hK.out.symm _ _ _ hbw9.out rfl)
        · have hm2I : ¬ (m : Int) < 2 := by omega
          replace hK := hK.out
          rw [if_neg (by omega)] at hK
          replace hK := Lib.hid hK
          have h1I : (1 : Int) < ((m + 1 : Nat) : Int) := by omega
          have h2I : (2 : Int) < ((m + 1 : Nat) : Int) := by omega
          have c14 := hcl4.out 1 (by omega)
          have h1L : 1 < L.length := by omega
          have h2L : 2 < L.length := by omega
          replace hK := hK.out
          rw [getD_get L 1 h1L, getD_get L 2 h2L] at hK
          replace hK := Lib.hid hK
          have hl1 := hLx 1 h1L
          have hl2 := hLx 2 h2L
          obtain ⟨l1, hl1e⟩ : ∃ l1, l1 = L[1] := ⟨_, rfl⟩
          obtain ⟨l2, hl2e⟩ : ∃ l2, l2 = L[2] := ⟨_, rfl⟩
          replace hK := hK.out
          rw [← hl1e] at c14 hl1 hK
          rw [← hl2e] at hl2 hK
          replace hK := Lib.hid hK
          replace hl1e := Lib.hid hl1e
          go_upto_region 11 with fail
          cases hax : addrF l1 with
          | none =>
            replace hK := Lib.hid (show none = o by have h := hK.out; rw [hax] at h; exact h)
            have hadr := Lib.hid fun W => refAdr_no l1 W hl1 hax
            have hzl : (adrC zAdr).length = 20 := rfl
            replace hax := Lib.hid hax
            generalize hza : adrC zAdr = za at *
            go_wp2_with (first
                          | (go_at_call 19; refine (hadr.out _).mono ?_; rintro e w5 ⟨rfl, hb5⟩; have hP5 := Lib.hid (hP4.out.below hb5); have hR5 := Lib.hid (hR4.out.below hb5); have hO5 := Lib.hid (hO4.out.below hb5); have hz5 := hb5.size; have hb05 := Lib.hid (xtrans hb04.out hb5); replace hb5 := Lib.hid hb5)
                          | (refine wpList_store_blkG rfl 29 _ _ rfl w5.heap.size rfl 29 [.int .u8 0, .int .u8 0, .int .u8 0, .int .u8 0, .int .u8 0, .int .u8 0, .int .u8 0, .int .u8 0, .int .u8 0, .int .u8 0, .int .u8 0, .int .u8 0, .int .u8 0, .int .u8 0, .int .u8 0, .int .u8 0, .int .u8 0, .int .u8 0, .int .u8 0, .int .u8 0] za (BlkG.new w5 _ _) rfl (by rw [hzl]; rfl) (by rw [hzl]; kernel_rfl) (by rw [← hza]; exact adrC_one _) ?_; intro w6 hA6 ho6; have hb6 := ho6.below (xalloc (xrefl w5) _) (xalloc (xrefl w5) (.cells ([.int .u8 0, .int .u8 0, .int .u8 0, .int .u8 0, .int .u8 0, .int .u8 0, .int .u8 0, .int .u8 0, .int .u8 0, .int .u8 0, .int .u8 0, .int .u8 0, .int .u8 0, .int .u8 0, .int .u8 0, .int .u8 0, .int .u8 0, .int .u8 0, .int .u8 0, .int .u8 0]).toArray 29)).size (by rintro k rfl; exact Nat.le_refl _); have hP6 := Lib.hid (hP5.out.below hb6); have hR6 := Lib.hid (hR5.out.below hb6); have hO6 := Lib.hid (hO5.out.below hb6); have hz6 := hb6.size; have hb06 := Lib.hid (xtrans hb05.out hb6); have hA6 := Lib.hid hA6; have hb46 := Lib.hid (xtrans hb5.out hb6); clear ho6 hb6)
                          | (refine wpList_load_mid rfl 27 _ rfl w.heap.size 0 rfl [labV p.dflt, .slice ca p.clears.length cc, .slice ra p.rels.length rc] _ (BlkG.range hP6.out) Tryz.underlying27 rfl (by kernel_rfl) ?_)
                          | (refine wpList_store_blkG rfl 27 _ _ rfl (w.heap.size + 1) rfl 27 [.int .u64 0, .slice none 0 0, .slice none 0 0] [labV p.dflt, .slice ca p.clears.length cc, .slice ra p.rels.length rc] hR6.out rfl rfl (by kernel_rfl) (by rfl) ?_; intro w9 hBw9 how9; have hbw9 := Lib.hid (how9.below hb06.out (by have := Below.size hb06.out; omega) (by rintro q rfl; omega)); replace hBw9 := Lib.hid hBw9; clear how9))
            exact bodyPost_ret (results_blkG2 (p := 6) (r := 7) rfl _ _ (w.heap.size + 1) 27 _ _ rfl hBw9.out Tryz.underlying27 rfl (by kernel_rfl)) rfl (DnPost.no hK.out.symm _ _ _ hbw9.out rfl)
          | some a =>
            have hadr := Lib.hid fun W => refAdr_ok l1 a W hl1 hax
            have haa := ofA_adr hax
            have hal : (adrC a).length = 20 := by rw [adrC_len, haa.len]
            replace hK := hK.out
            rw [hax] at hK
            simp only [] at hK
            replace hK := Lib.hid hK
            replace hax := Lib.hid hax
            go_upto_region 14 with (first
              | (go_at_call 19; refine (hadr.out _).mono ?_; rintro e w5 ⟨rfl, hb5⟩; have hP5 := Lib.hid (hP4.out.below hb5); have hR5 := Lib.hid (hR4.out.below hb5); have hO5 := Lib.hid (hO4.out.below hb5); have hz5 := hb5.size; have hb05 := Lib.hid (xtrans hb04.out hb5); replace hb5 := Lib.hid hb5)
              | (refine wpList_store_blkG rfl 29 _ _ rfl w5.heap.size rfl 29 [.int .u8 0, .int .u8 0, .int .u8 0, .int .u8 0, .int .u8 0, .int .u8 0, .int .u8 0, .int .u8 0, .int .u8 0, .int .u8 0, .int .u8 0, .int .u8 0, .int .u8 0, .int .u8 0, .int .u8 0, .int .u8 0, .int .u8 0, .int .u8 0, .int .u8 0, .int .u8 0] (adrC a) (BlkG.new w5 _ _) rfl (by rw [hal]; rfl) (by rw [hal]; kernel_rfl) (adrC_one _) ?_; intro w6 hA6 ho6; have hb6 := ho6.below (xalloc (xrefl w5) _) (xalloc (xrefl w5) (.cells ([.int .u8 0, .int .u8 0, .int .u8 0, .int .u8 0, .int .u8 0, .int .u8 0, .int .u8 0, .int .u8 0, .int .u8 0, .int .u8 0, .int .u8 0, .int .u8 0, .int .u8 0, .int .u8 0, .int .u8 0, .int .u8 0, .int .u8 0, .int .u8 0, .int .u8 0, .int .u8 0]).toArray 29)).size (by rintro k rfl; exact Nat.le_refl _); have hP6 := Lib.hid (hP5.out.below hb6); have hR6 := Lib.hid (hR5.out.below hb6); have hO6 := Lib.hid (hO5.out.below hb6); have hz6 := hb6.size; have hb06 := Lib.hid (xtrans hb05.out hb6); have hA6 := Lib.hid hA6; have hb46 := Lib.hid (xtrans hb5.out hb6); clear ho6 hb6))
            have hb36 := Lib.hid (xtrans hb34.out hb46.out)
            have c06 := hcl.out w6 hb36.out 0 (by omega)
            have c26 := hcl.out w6 hb36.out 2 (by omega)
            rw [Nat.add_zero, ← hl0.out] at c06
            rw [← hl2e] at c26
            have r26 := blk_cell hP6.out (i := 2) rfl
            have hcl0 : Hid (∀ W, Below w6.heap.size w6 W → W.cell? ⟨lb, lo, none⟩ = some (.string ⟨l0.toArray⟩)) := Lib.hid fun W hb => by have := hcl.out W (xtrans hb36.out hb) 0 (by omega); rwa [Nat.add_zero, ← hl0.out] at this
            clear hP4 hR4 hO4 hb04 hP5 hR5 hO5 hb05 hb5 hadr c04 c14 hcl4
            replace hl2e := Lib.hid hl2e
            by_cases hcC : l0 = wClear
            · have hqc : (l0 == [99, 108, 101, 97, 114]) = true := by rw [hcC]; rfl
              have hrl : l0 ≠ wRelease := by rw [hcC]; exact wrc_ne.symm
              by_cases hm2E : m = 2
              · have hm2J : (m : Int) = 2 := by omega
                by_cases hre : p.rels = []
                · replace hK := hK.out
                  rw [if_pos ⟨hcC, by omega, hre⟩] at hK
                  replace hK := Lib.hid hK
                  have hreI : ((p.rels.length : Nat) : Int) = 0 := by rw [hre]; rfl
                  clear hcC hrl
                  have r16 := blk_cell hP6.out (i := 1) rfl
                  replace hre := Lib.hid hre
                  have hbu : Tryz.prog.built 65 [(0, .agg (adrC a).toArray), (1, .int .u64 (iv64 x))] = some (clearC (a, x)).toArray := built_clear a x haa.len
                  have hbs := fun W => bsl_clear a x haa.len W
                  have hyl : (clearC (a, x)).length = 21 := clearC_len haa
                  have hyo : ∀ u ∈ clearC (a, x), u.oneCell' = true := List.all_eq_true.1 (clearC_one _)
                  have hadd : Hid (∀ W W2 v8, PolO g W p (.slice ca p.clears.length cc) (.slice ra p.rels.length rc) → W2.ownsRow g 65 21 v8 (p.clears.length + 1) (p.clears.flatMap clearC ++ clearC (a, x)) → W.grownBy W2 (Value.ownBlock (.slice ca p.clears.length cc)) → PolO g W2 { p with clears := p.clears ++ [(a, x)] } v8 (.slice ra p.rels.length rc)) := Lib.hid fun W W2 v8 h ho hg => h.addC haa ho hg
                  obtain ⟨ys, hys⟩ : ∃ ys, ys = clearC (a, x) := ⟨_, rfl⟩
                  rw [← hys] at hbu hyl hyo hadd
                  simp only [← hys] at hbs
                  replace hys := Lib.hid hys
                  replace hbu := Lib.hid hbu
                  replace hbs := Lib.hid hbs
                  obtain ⟨ic, hic, hzc, hsc, hbc⟩ := info_parts infoC
                  generalize hzv : Value.agg (clearC (zAdr, 0)).toArray = zc at *
                  have hzs : zc.cells.size = 21 := by rw [← hzv]; rfl
                  replace hzv := Lib.hid hzv
                  have hxl : p.clears.length + 1 ≤ maxLen := by unfold maxLen; omega
                  have hxb : (p.clears.length + 1) * 32 ≤ 140737488355328 := by omega
                  go_upto_region 16 with (first
                                      | (at_builtin; refine wpList_append_blkV (w6.alloc (.cells ys.toArray 65)) rfl _ _ 24 rfl g 65 ic zc 21 32 Tryz.underlying24 hic hzc hsc hbc hzs (by decide) (.slice ca p.clears.length cc) p.clears.length (p.clears.flatMap clearC) rfl (PolO.oc (hO6.out.below (xalloc (xrefl _) _))) ⟨w6.heap.size, 0, none⟩ 1 1 ys rfl (by rw [hyl]) (fun j u hj => blk_add (BlkG.new w6 _ _) hj) hyo hxl hxb (by rw [World.size_alloc]; omega) ?_; intro v8 w8 ho8 hg8 _; obtain ⟨a8, k8, rfl⟩ := own_sliceV ho8; have hO8 := Lib.hid (hadd.out _ _ _ (hO6.out.below (xalloc (xrefl _) _)) ho8 hg8); have hb08 := Lib.hid (((Below.only (xalloc hb06.out (.cells ys.toArray 65))).trans ((only_grown hg8).mono fun k _ e => .inl e) : Only (fun k => Value.ownBlock (.slice ca p.clears.length cc) = some k ∨ Value.ownBlock (.slice ra p.rels.length rc) = some k) w w8)); have hz8 := Only.size hb08.out; have hP8 := Lib.hid ((hP6.out.alloc _).only (only_grown hg8) (fun e => by have := hvc _ e; omega)); have hR8 := Lib.hid ((hR6.out.alloc _).only (only_grown hg8) (fun e => by have := hvc _ e; omega)); have c8 := blk_cell hP8.out (i := 1) rfl; have f8 := hP8.out.free 1; clear hg8 ho8)
                                      | (refine wpList_execR rfl (.slice (some ⟨w6.heap.size, 0, none⟩) 1 1) (w6.alloc (.cells ys.toArray 65)) (exec_bsl 24 _ rfl (.agg ys.toArray) rfl (hbs.out w6)) ?_)
                                      | (refine wpList_build rfl 65 _ rfl [(0, .agg (adrC a).toArray), (1, .int .u64 (iv64 x))] rfl _ hbu.out ?_)
                                      | (refine wpList_load_mid rfl 29 _ rfl w5.heap.size 0 rfl (adrC a) _ (BlkG.range hA6.out) Tryz.underlying29 rfl (by rw [hal]; kernel_rfl) ?_))
                  have hP9 := Lib.hid (show BlkG (w8.setCell ⟨w.heap.size, 1, none⟩ (.slice a8 (p.clears.length + 1) k8)) w.heap.size 27 [labV p.dflt, (.slice a8 (p.clears.length + 1) k8), .slice ra p.rels.length rc] from hP8.out.set 1 (.slice a8 (p.clears.length + 1) k8))
                  have ho9 : Only (· = w.heap.size) w8 (w8.setCell ⟨w.heap.size, 1, none⟩ (.slice a8 (p.clears.length + 1) k8)) := (Only.refl _ _).setCell _ _ rfl
                  have hO9 := Lib.hid (hO8.out.oth hP8.out ho9)
                  have hR9 := Lib.hid (hR8.out.only ho9 (by omega))
                  have hb09 := Lib.hid (only_new hb08.out ho9 (by rintro q rfl; exact Nat.le_refl _))
                  clear ho9 c8 f8 hP8 hR8 hO8 hb08
                  generalize w8.setCell ⟨w.heap.size, 1, none⟩ (.slice a8 (p.clears.length + 1) k8) = w10 at *
                  go_wp2_with (first
                                      | (refine wpList_load_mid rfl 27 _ rfl w.heap.size 0 rfl [labV p.dflt, (.slice a8 (p.clears.length + 1) k8), .slice ra p.rels.length rc] _ (BlkG.range hP9.out) Tryz.underlying27 rfl (by kernel_rfl) ?_)
                                      | (refine wpList_store_blkG rfl 27 _ _ rfl (w.heap.size + 1) rfl 27 [.int .u64 0, .slice none 0 0, .slice none 0 0] [labV p.dflt, (.slice a8 (p.clears.length + 1) k8), .slice ra p.rels.length rc] hR9.out rfl rfl (by kernel_rfl) (by rfl) ?_; intro w11 hBw11 how11; have hO11 := Lib.hid (hO9.out.oth hR9.out how11); have hbw11 := Lib.hid (only_new hb09.out how11 (by rintro q rfl; omega)); replace hBw11 := Lib.hid hBw11; clear how11))
                  exact bodyPost_ret (results_blkG2 (p := 6) (r := 7) rfl _ _ (w.heap.size + 1) 27 _ _ rfl hBw11.out Tryz.underlying27 rfl (by kernel_rfl)) rfl (DnPost.yes (q := { p with clears := p.clears ++ [(a, x)] }) hK.out.symm hO11.out hbw11.out)
                · replace hK := hK.out
                  rw [if_neg (fun h => hre h.2.2)] at hK
                  replace hK := Lib.hid hK
                  have hreI : ¬ ((p.rels.length : Nat) : Int) = 0 := fun h => hre (List.length_eq_zero_iff.1 (by omega))
                  clear hcC
                  cases hnx : numF l2 with
                  | none =>
                    replace hK := Lib.hid (show none = o by have h := hK.out; rw [hnx] at h; exact h)
                    have hnum := Lib.hid fun W => refNum_no l2 W hl2 hnx
                    replace hnx := Lib.hid hnx
                    go_wp2_with (first
                                          | (go_at_call 102; refine (hnum.out _).mono ?_; rintro e w7 ⟨rfl, hb7⟩; have hP7 := Lib.hid (hP6.out.below hb7); have hR7 := Lib.hid (hR6.out.below hb7); have hO7 := Lib.hid (hO6.out.below hb7); have hA7 := Lib.hid (hA6.out.below hb7); have hz7 := hb7.size; have hb07 := Lib.hid (xtrans hb06.out hb7); have c07 := hcl0.out w7 hb7; have r27 := blk_cell hP7.out (i := 2) rfl; replace hb7 := Lib.hid hb7; clear c06 c26 r26)
                                          | (refine wpList_load_mid rfl 27 _ rfl w.heap.size 0 rfl [labV p.dflt, .slice ca p.clears.length cc, .slice ra p.rels.length rc] _ (BlkG.range hP7.out) Tryz.underlying27 rfl (by kernel_rfl) ?_)
                                          | (refine wpList_store_blkG rfl 27 _ _ rfl (w.heap.size + 1) rfl 27 [.int .u64 0, .slice none 0 0, .slice none 0 0] [labV p.dflt, .slice ca p.clears.length cc, .slice ra p.rels.length rc] hR7.out rfl rfl (by kernel_rfl) (by rfl) ?_; intro w9 hBw9 how9; have hbw9 := Lib.hid (how9.below hb07.out (by have := Below.size hb07.out; omega) (by rintro q rfl; omega)); replace hBw9 := Lib.hid hBw9; clear how9))
                    exact bodyPost_ret (results_blkG2 (p := 6) (r := 7) rfl _ _ (w.heap.size + 1) 27 _ _ rfl hBw9.out Tryz.underlying27 rfl (by kernel_rfl)) rfl (DnPost.no hK.out.symm _ _ _ hbw9.out rfl)
                  | some n =>
                    have hnum := Lib.hid fun W => refNum_ok l2 n W hl2 hnx
                    have hn32 : n < 4294967296 := (num_some hnx).2
                    replace hK := hK.out
                    rw [hnx] at hK
                    simp only [] at hK
                    replace hK := Lib.hid hK
                    replace hnx := Lib.hid hnx
                    replace hK := hK.out
                    rw [if_neg (fun h => hrl h.1)] at hK
                    replace hK := Lib.hid hK
                    have hqr : (l0 == [114, 101, 108, 101, 97, 115, 101]) = false := by rw [beq_eq_false_iff_ne]; exact hrl
                    clear hrl
                    go_wp2_with (first
                                          | (go_at_call 102; refine (hnum.out _).mono ?_; rintro e w7 ⟨rfl, hb7⟩; have hP7 := Lib.hid (hP6.out.below hb7); have hR7 := Lib.hid (hR6.out.below hb7); have hO7 := Lib.hid (hO6.out.below hb7); have hA7 := Lib.hid (hA6.out.below hb7); have hz7 := hb7.size; have hb07 := Lib.hid (xtrans hb06.out hb7); have c07 := hcl0.out w7 hb7; have r27 := blk_cell hP7.out (i := 2) rfl; replace hb7 := Lib.hid hb7; clear c06 c26 r26)
                                          | (refine wpList_load_mid rfl 27 _ rfl w.heap.size 0 rfl [labV p.dflt, .slice ca p.clears.length cc, .slice ra p.rels.length rc] _ (BlkG.range hP7.out) Tryz.underlying27 rfl (by kernel_rfl) ?_)
                                          | (refine wpList_store_blkG rfl 27 _ _ rfl (w.heap.size + 1) rfl 27 [.int .u64 0, .slice none 0 0, .slice none 0 0] [labV p.dflt, .slice ca p.clears.length cc, .slice ra p.rels.length rc] hR7.out rfl rfl (by kernel_rfl) (by rfl) ?_; intro w9 hBw9 how9; have hbw9 := Lib.hid (how9.below hb07.out (by have := Below.size hb07.out; omega) (by rintro q rfl; omega)); replace hBw9 := Lib.hid hBw9; clear how9))
                    exact bodyPost_ret (results_blkG2 (p := 6) (r := 7) rfl _ _ (w.heap.size + 1) 27 _ _ rfl hBw9.out Tryz.underlying27 rfl (by kernel_rfl)) rfl (DnPost.no hK.out.symm _ _ _ hbw9.out rfl)
              · replace hK := hK.out
                rw [if_neg (fun h => hm2E (by omega))] at hK
                replace hK := Lib.hid hK
                have hm2J : ¬ (m : Int) = 2 := by omega
                clear hcC
                cases hnx : numF l2 with
                | none =>
                  replace hK := Lib.hid (show none = o by have h := hK.out; rw [hnx] at h; exact h)
                  have hnum := Lib.hid fun W => refNum_no l2 W hl2 hnx
                  replace hnx := Lib.hid hnx
                  go_wp2_with (first
                                      | (go_at_call 102; refine (hnum.out _).mono ?_; rintro e w7 ⟨rfl, hb7⟩; have hP7 := Lib.hid (hP6.out.below hb7); have hR7 := Lib.hid (hR6.out.below hb7); have hO7 := Lib.hid (hO6.out.below hb7); have hA7 := Lib.hid (hA6.out.below hb7); have hz7 := hb7.size; have hb07 := Lib.hid (xtrans hb06.out hb7); have c07 := hcl0.out w7 hb7; have r27 := blk_cell hP7.out (i := 2) rfl; replace hb7 := Lib.hid hb7; clear c06 c26 r26)
                                      | (refine wpList_load_mid rfl 27 _ rfl w.heap.size 0 rfl [labV p.dflt, .slice ca p.clears.length cc, .slice ra p.rels.length rc] _ (BlkG.range hP7.out) Tryz.underlying27 rfl (by kernel_rfl) ?_)
                                      | (refine wpList_store_blkG rfl 27 _ _ rfl (w.heap.size + 1) rfl 27 [.int .u64 0, .slice none 0 0, .slice none 0 0] [labV p.dflt, .slice ca p.clears.length cc, .slice ra p.rels.length rc] hR7.out rfl rfl (by kernel_rfl) (by rfl) ?_; intro w9 hBw9 how9; have hbw9 := Lib.hid (how9.below hb07.out (by have := Below.size hb07.out; omega) (by rintro q rfl; omega)); replace hBw9 := Lib.hid hBw9; clear how9))
                  exact bodyPost_ret (results_blkG2 (p := 6) (r := 7) rfl _ _ (w.heap.size + 1) 27 _ _ rfl hBw9.out Tryz.underlying27 rfl (by kernel_rfl)) rfl (DnPost.no hK.out.symm _ _ _ hbw9.out rfl)
                | some n =>
                  have hnum := Lib.hid fun W => refNum_ok l2 n W hl2 hnx
                  have hn32 : n < 4294967296 := (num_some hnx).2
                  replace hK := hK.out
                  rw [hnx] at hK
                  simp only [] at hK
                  replace hK := Lib.hid hK
                  replace hnx := Lib.hid hnx
                  replace hK := hK.out
                  rw [if_neg (fun h => hrl h.1)] at hK
                  replace hK := Lib.hid hK
                  have hqr : (l0 == [114, 101, 108, 101, 97, 115, 101]) = false := by rw [beq_eq_false_iff_ne]; exact hrl
                  clear hrl
                  go_wp2_with (first
                                      | (go_at_call 102; refine (hnum.out _).mono ?_; rintro e w7 ⟨rfl, hb7⟩; have hP7 := Lib.hid (hP6.out.below hb7); have hR7 := Lib.hid (hR6.out.below hb7); have hO7 := Lib.hid (hO6.out.below hb7); have hA7 := Lib.hid (hA6.out.below hb7); have hz7 := hb7.size; have hb07 := Lib.hid (xtrans hb06.out hb7); have c07 := hcl0.out w7 hb7; have r27 := blk_cell hP7.out (i := 2) rfl; replace hb7 := Lib.hid hb7; clear c06 c26 r26)
                                      | (refine wpList_load_mid rfl 27 _ rfl w.heap.size 0 rfl [labV p.dflt, .slice ca p.clears.length cc, .slice ra p.rels.length rc] _ (BlkG.range hP7.out) Tryz.underlying27 rfl (by kernel_rfl) ?_)
                                      | (refine wpList_store_blkG rfl 27 _ _ rfl (w.heap.size + 1) rfl 27 [.int .u64 0, .slice none 0 0, .slice none 0 0] [labV p.dflt, .slice ca p.clears.length cc, .slice ra p.rels.length rc] hR7.out rfl rfl (by kernel_rfl) (by rfl) ?_; intro w9 hBw9 how9; have hbw9 := Lib.hid (how9.below hb07.out (by have := Below.size hb07.out; omega) (by rintro q rfl; omega)); replace hBw9 := Lib.hid hBw9; clear how9))
                  exact bodyPost_ret (results_blkG2 (p := 6) (r := 7) rfl _ _ (w.heap.size + 1) 27 _ _ rfl hBw9.out Tryz.underlying27 rfl (by kernel_rfl)) rfl (DnPost.no hK.out.symm _ _ _ hbw9.out rfl)
            · replace hK := hK.out
              rw [if_neg (fun h => hcC h.1)] at hK
              replace hK := Lib.hid hK
              have hqc : (l0 == [99, 108, 101, 97, 114]) = false := by rw [beq_eq_false_iff_ne]; exact hcC
              clear hcC
              cases hnx : numF l2 with
              | none =>
                replace hK := Lib.hid (show none = o by have h := hK.out; rw [hnx] at h; exact h)
                have hnum := Lib.hid fun W => refNum_no l2 W hl2 hnx
                replace hnx := Lib.hid hnx
                go_wp2_with (first
                                  | (go_at_call 102; refine (hnum.out _).mono ?_; rintro e w7 ⟨rfl, hb7⟩; have hP7 := Lib.hid (hP6.out.below hb7); have hR7 := Lib.hid (hR6.out.below hb7); have hO7 := Lib.hid (hO6.out.below hb7); have hA7 := Lib.hid (hA6.out.below hb7); have hz7 := hb7.size; have hb07 := Lib.hid (xtrans hb06.out hb7); have c07 := hcl0.out w7 hb7; have r27 := blk_cell hP7.out (i := 2) rfl; replace hb7 := Lib.hid hb7; clear c06 c26 r26)
                                  | (refine wpList_load_mid rfl 27 _ rfl w.heap.size 0 rfl [labV p.dflt, .slice ca p.clears.length cc, .slice ra p.rels.length rc] _ (BlkG.range hP7.out) Tryz.underlying27 rfl (by kernel_rfl) ?_)
                                  | (refine wpList_store_blkG rfl 27 _ _ rfl (w.heap.size + 1) rfl 27 [.int .u64 0, .slice none 0 0, .slice none 0 0] [labV p.dflt, .slice ca p.clears.length cc, .slice ra p.rels.length rc] hR7.out rfl rfl (by kernel_rfl) (by rfl) ?_; intro w9 hBw9 how9; have hbw9 := Lib.hid (how9.below hb07.out (by have := Below.size hb07.out; omega) (by rintro q rfl; omega)); replace hBw9 := Lib.hid hBw9; clear how9))
                exact bodyPost_ret (results_blkG2 (p := 6) (r := 7) rfl _ _ (w.heap.size + 1) 27 _ _ rfl hBw9.out Tryz.underlying27 rfl (by kernel_rfl)) rfl (DnPost.no hK.out.symm _ _ _ hbw9.out rfl)
              | some n =>
                have hnum := Lib.hid fun W => refNum_ok l2 n W hl2 hnx
                have hn32 : n < 4294967296 := (num_some hnx).2
                replace hK := hK.out
                rw [hnx] at hK
                simp only [] at hK
                replace hK := Lib.hid hK
                replace hnx := Lib.hid hnx
                by_cases hrl : l0 = wRelease
                · have hqr : (l0 == [114, 101, 108, 101, 97, 115, 101]) = true := by rw [hrl]; rfl
                  by_cases hm3 : m = 3
                  · replace hK := hK.out
                    rw [if_pos ⟨hrl, by omega⟩] at hK
                    replace hK := Lib.hid hK
                    have hm3I : (m : Int) = 3 := by omega
                    clear hrl
                    have hbu : Tryz.prog.built 67 [(0, .agg (adrC a).toArray), (1, .int .u32 n), (2, .int .u64 (iv64 x))] = some (relC (a, n, x)).toArray := built_rel a n x haa.len
                    have hbs := fun W => bsl_rel a n x haa.len W
                    have hyl : (relC (a, n, x)).length = 22 := relC_len haa
                    have hyo : ∀ u ∈ relC (a, n, x), u.oneCell' = true := List.all_eq_true.1 (relC_one _)
                    have hadd : Hid (∀ W W2 v8, PolO g W p (.slice ca p.clears.length cc) (.slice ra p.rels.length rc) → W2.ownsRow g 67 22 v8 (p.rels.length + 1) (p.rels.flatMap relC ++ relC (a, n, x)) → W.grownBy W2 (Value.ownBlock (.slice ra p.rels.length rc)) → PolO g W2 { p with rels := p.rels ++ [(a, n, x)] } (.slice ca p.clears.length cc) v8) := Lib.hid fun W W2 v8 h ho hg => h.addR haa hn32 ho hg
                    obtain ⟨ys, hys⟩ : ∃ ys, ys = relC (a, n, x) := ⟨_, rfl⟩
                    rw [← hys] at hbu hyl hyo hadd
                    simp only [← hys] at hbs
                    replace hys := Lib.hid hys
                    replace hbu := Lib.hid hbu
                    replace hbs := Lib.hid hbs
                    obtain ⟨ic, hic, hzc, hsc, hbc⟩ := info_parts infoR
                    generalize hzv : Value.agg (relC (zAdr, 0, 0)).toArray = zc at *
                    have hzs : zc.cells.size = 22 := by rw [← hzv]; rfl
                    replace hzv := Lib.hid hzv
                    have hxl : p.rels.length + 1 ≤ maxLen := by unfold maxLen; omega
                    have hxb : (p.rels.length + 1) * 32 ≤ 140737488355328 := by omega
                    go_upto_region 21 with (first
                                          | (at_builtin; refine wpList_append_blkV (w7.alloc (.cells ys.toArray 67)) rfl _ _ 25 rfl g 67 ic zc 22 32 Tryz.underlying25 hic hzc hsc hbc hzs (by decide) (.slice ra p.rels.length rc) p.rels.length (p.rels.flatMap relC) rfl (PolO.ow (hO7.out.below (xalloc (xrefl _) _))) ⟨w7.heap.size, 0, none⟩ 1 1 ys rfl (by rw [hyl]) (fun j u hj => blk_add (BlkG.new w7 _ _) hj) hyo hxl hxb (by rw [World.size_alloc]; omega) ?_; intro v8 w8 ho8 hg8 _; obtain ⟨a8, k8, rfl⟩ := own_sliceV ho8; have hO8 := Lib.hid (hadd.out _ _ _ (hO7.out.below (xalloc (xrefl _) _)) ho8 hg8); have hb08 := Lib.hid (((Below.only (xalloc hb07.out (.cells ys.toArray 67))).trans ((only_grown hg8).mono fun k _ e => .inr e) : Only (fun k => Value.ownBlock (.slice ca p.clears.length cc) = some k ∨ Value.ownBlock (.slice ra p.rels.length rc) = some k) w w8)); have hz8 := Only.size hb08.out; have hP8 := Lib.hid ((hP7.out.alloc _).only (only_grown hg8) (fun e => by have := hvr _ e; omega)); have hR8 := Lib.hid ((hR7.out.alloc _).only (only_grown hg8) (fun e => by have := hvr _ e; omega)); have c8 := blk_cell hP8.out (i := 2) rfl; have f8 := hP8.out.free 2; clear hg8 ho8)
                                          | (refine wpList_execR rfl (.slice (some ⟨w7.heap.size, 0, none⟩) 1 1) (w7.alloc (.cells ys.toArray 67)) (exec_bsl 25 _ rfl (.agg ys.toArray) rfl (hbs.out w7)) ?_)
                                          | (refine wpList_build rfl 67 _ rfl [(0, .agg (adrC a).toArray), (1, .int .u32 n), (2, .int .u64 (iv64 x))] rfl _ hbu.out ?_)
                                          | (refine wpList_load_mid rfl 29 _ rfl w5.heap.size 0 rfl (adrC a) _ (BlkG.range hA7.out) Tryz.underlying29 rfl (by rw [hal]; kernel_rfl) ?_)
                                          | (go_at_call 102; refine (hnum.out _).mono ?_; rintro e w7 ⟨rfl, hb7⟩; have hP7 := Lib.hid (hP6.out.below hb7); have hR7 := Lib.hid (hR6.out.below hb7); have hO7 := Lib.hid (hO6.out.below hb7); have hA7 := Lib.hid (hA6.out.below hb7); have hz7 := hb7.size; have hb07 := Lib.hid (xtrans hb06.out hb7); have c07 := hcl0.out w7 hb7; have r27 := blk_cell hP7.out (i := 2) rfl; replace hb7 := Lib.hid hb7; clear c06 c26 r26))
                    have hP9 := Lib.hid (show BlkG (w8.setCell ⟨w.heap.size, 2, none⟩ (.slice a8 (p.rels.length + 1) k8)) w.heap.size 27 [labV p.dflt, .slice ca p.clears.length cc, (.slice a8 (p.rels.length + 1) k8)] from hP8.out.set 2 (.slice a8 (p.rels.length + 1) k8))
                    have ho9 : Only (· = w.heap.size) w8 (w8.setCell ⟨w.heap.size, 2, none⟩ (.slice a8 (p.rels.length + 1) k8)) := (Only.refl _ _).setCell _ _ rfl
                    have hO9 := Lib.hid (hO8.out.oth hP8.out ho9)
                    have hR9 := Lib.hid (hR8.out.only ho9 (by omega))
                    have hb09 := Lib.hid (only_new hb08.out ho9 (by rintro q rfl; exact Nat.le_refl _))
                    clear ho9 c8 f8 hP8 hR8 hO8 hb08
                    generalize w8.setCell ⟨w.heap.size, 2, none⟩ (.slice a8 (p.rels.length + 1) k8) = w10 at *
                    go_wp2_with (first
                                          | (refine wpList_load_mid rfl 27 _ rfl w.heap.size 0 rfl [labV p.dflt, .slice ca p.clears.length cc, (.slice a8 (p.rels.length + 1) k8)] _ (BlkG.range hP9.out) Tryz.underlying27 rfl (by kernel_rfl) ?_)
                                          | (refine wpList_store_blkG rfl 27 _ _ rfl (w.heap.size + 1) rfl 27 [.int .u64 0, .slice none 0 0, .slice none 0 0] [labV p.dflt, .slice ca p.clears.length cc, (.slice a8 (p.rels.length + 1) k8)] hR9.out rfl rfl (by kernel_rfl) (by rfl) ?_; intro w11 hBw11 how11; have hO11 := Lib.hid (hO9.out.oth hR9.out how11); have hbw11 := Lib.hid (only_new hb09.out how11 (by rintro q rfl; omega)); replace hBw11 := Lib.hid hBw11; clear how11))
                    exact bodyPost_ret (results_blkG2 (p := 6) (r := 7) rfl _ _ (w.heap.size + 1) 27 _ _ rfl hBw11.out Tryz.underlying27 rfl (by kernel_rfl)) rfl (DnPost.yes (q := { p with rels := p.rels ++ [(a, n, x)] }) hK.out.symm hO11.out hbw11.out)
                  · replace hK := hK.out
                    rw [if_neg (fun h => hm3 (by omega))] at hK
                    replace hK := Lib.hid hK
                    have hm3I : ¬ (m : Int) = 3 := by omega
                    clear hrl
                    go_wp2_with (first
                                          | (go_at_call 102; refine (hnum.out _).mono ?_; rintro e w7 ⟨rfl, hb7⟩; have hP7 := Lib.hid (hP6.out.below hb7); have hR7 := Lib.hid (hR6.out.below hb7); have hO7 := Lib.hid (hO6.out.below hb7); have hA7 := Lib.hid (hA6.out.below hb7); have hz7 := hb7.size; have hb07 := Lib.hid (xtrans hb06.out hb7); have c07 := hcl0.out w7 hb7; have r27 := blk_cell hP7.out (i := 2) rfl; replace hb7 := Lib.hid hb7; clear c06 c26 r26)
                                          | (refine wpList_load_mid rfl 27 _ rfl w.heap.size 0 rfl [labV p.dflt, .slice ca p.clears.length cc, .slice ra p.rels.length rc] _ (BlkG.range hP7.out) Tryz.underlying27 rfl (by kernel_rfl) ?_)
                                          | (refine wpList_store_blkG rfl 27 _ _ rfl (w.heap.size + 1) rfl 27 [.int .u64 0, .slice none 0 0, .slice none 0 0] [labV p.dflt, .slice ca p.clears.length cc, .slice ra p.rels.length rc] hR7.out rfl rfl (by kernel_rfl) (by rfl) ?_; intro w9 hBw9 how9; have hbw9 := Lib.hid (how9.below hb07.out (by have := Below.size hb07.out; omega) (by rintro q rfl; omega)); replace hBw9 := Lib.hid hBw9; clear how9))
                    exact bodyPost_ret (results_blkG2 (p := 6) (r := 7) rfl _ _ (w.heap.size + 1) 27 _ _ rfl hBw9.out Tryz.underlying27 rfl (by kernel_rfl)) rfl (DnPost.no hK.out.symm _ _ _ hbw9.out rfl)
                · replace hK := hK.out
                  rw [if_neg (fun h => hrl h.1)] at hK
                  replace hK := Lib.hid hK
                  have hqr : (l0 == [114, 101, 108, 101, 97, 115, 101]) = false := by rw [beq_eq_false_iff_ne]; exact hrl
                  clear hrl
                  go_wp2_with (first
                                      | (go_at_call 102; refine (hnum.out _).mono ?_; rintro e w7 ⟨rfl, hb7⟩; have hP7 := Lib.hid (hP6.out.below hb7); have hR7 := Lib.hid (hR6.out.below hb7); have hO7 := Lib.hid (hO6.out.below hb7); have hA7 := Lib.hid (hA6.out.below hb7); have hz7 := hb7.size; have hb07 := Lib.hid (xtrans hb06.out hb7); have c07 := hcl0.out w7 hb7; have r27 := blk_cell hP7.out (i := 2) rfl; replace hb7 := Lib.hid hb7; clear c06 c26 r26)
                                      | (refine wpList_load_mid rfl 27 _ rfl w.heap.size 0 rfl [labV p.dflt, .slice ca p.clears.length cc, .slice ra p.rels.length rc] _ (BlkG.range hP7.out) Tryz.underlying27 rfl (by kernel_rfl) ?_)
                                      | (refine wpList_store_blkG rfl 27 _ _ rfl (w.heap.size + 1) rfl 27 [.int .u64 0, .slice none 0 0, .slice none 0 0] [labV p.dflt, .slice ca p.clears.length cc, .slice ra p.rels.length rc] hR7.out rfl rfl (by kernel_rfl) (by rfl) ?_; intro w9 hBw9 how9; have hbw9 := Lib.hid (how9.below hb07.out (by have := Below.size hb07.out; omega) (by rintro q rfl; omega)); replace hBw9 := Lib.hid hBw9; clear how9))
                  exact bodyPost_ret (results_blkG2 (p := 6) (r := 7) rfl _ _ (w.heap.size + 1) 27 _ _ rfl hBw9.out Tryz.underlying27 rfl (by kernel_rfl)) rfl (DnPost.no hK.out.symm _ _ _ hbw9.out rfl)
    · replace hK := Lib.hid (show none = o by have h := hK.out; rw [if_pos hfd] at h; exact h)
      cases first with
      | true =>
        have hd0 : l0 ≠ wDefault := by simpa using hfd
        have hq0 : (l0 == [100, 101, 102, 97, 117, 108, 116]) = false := by rw [beq_eq_false_iff_ne]; exact hd0
        clear hfd hd0
        replace hl0 := Lib.hid hl0
        go_wp2_with (first
                  | (refine wpList_load_mid rfl 27 _ rfl w.heap.size 0 rfl [labV p.dflt, .slice ca p.clears.length cc, .slice ra p.rels.length rc] _ (BlkG.range hP4.out) Tryz.underlying27 rfl (by kernel_rfl) ?_)
                  | (refine wpList_store_blkG rfl 27 _ _ rfl (w.heap.size + 1) rfl 27 [.int .u64 0, .slice none 0 0, .slice none 0 0] [labV p.dflt, .slice ca p.clears.length cc, .slice ra p.rels.length rc] hR4.out rfl rfl (by kernel_rfl) (by rfl) ?_; intro w9 hBw9 how9; have hbw9 := Lib.hid (how9.below hb04.out (by have := Below.size hb04.out; omega) (by rintro q rfl; omega)); replace hBw9 := Lib.hid hBw9; clear how9))
        exact bodyPost_ret (results_blkG2 (p := 6) (r := 7) rfl _ _ (w.heap.size + 1) 27 _ _ rfl hBw9.out Tryz.underlying27 rfl (by kernel_rfl)) rfl (DnPost.no hK.out.symm _ _ _ hbw9.out rfl)
      | false =>
        have hd0 : l0 = wDefault := by simpa using hfd
        have hq0 : (l0 == [100, 101, 102, 97, 117, 108, 116]) = true := by rw [hd0]; rfl
        clear hfd hd0
        replace hl0 := Lib.hid hl0
        go_wp2_with (first
                  | (refine wpList_load_mid rfl 27 _ rfl w.heap.size 0 rfl [labV p.dflt, .slice ca p.clears.length cc, .slice ra p.rels.length rc] _ (BlkG.range hP4.out) Tryz.underlying27 rfl (by kernel_rfl) ?_)
                  | (refine wpList_store_blkG rfl 27 _ _ rfl (w.heap.size + 1) rfl 27 [.int .u64 0, .slice none 0 0, .slice none 0 0] [labV p.dflt, .slice ca p.clears.length cc, .slice ra p.rels.length rc] hR4.out rfl rfl (by kernel_rfl) (by rfl) ?_; intro w9 hBw9 how9; have hbw9 := Lib.hid (how9.below hb04.out (by have := Below.size hb04.out; omega) (by rintro q rfl; omega)); replace hBw9 := Lib.hid hBw9; clear how9))
        exact bodyPost_ret (results_blkG2 (p := 6) (r := 7) rfl _ _ (w.heap.size + 1) 27 _ _ rfl hBw9.out Tryz.underlying27 rfl (by kernel_rfl)) rfl (DnPost.no hK.out.symm _ _ _ hbw9.out rfl)
end Go.Proofs.YthpallkphamobaaGreatDoor
