/- Texts of this claim, merged; no condition. -/
import Derived.Test.YtbicfaiabpcgfaaGreatDoorD22
import Derived.Test.YtbicfaiabpcgfaaGreatDoorD23
set_option linter.all false
namespace Go.Proofs.YtbicfaiabpcgfaaGreatDoor
open Go.RowKit Go.Shelf

theorem PrS.only {w W W' : World} {u : Value} {n : Nat} {O : Nat → Prop} (h : PrS w W u n) (ho : Only O W W') (h1 : ∀ k, O k → w.heap.size + 2 ≤ k) : PrS w W' u n :=
  ⟨h.bo.only ho fun h => by have := h1 _ h; omega, h.be.only ho fun h => by have := h1 _ h; omega, ho.below h.hb h.hb.size fun k hk => by have := h1 _ hk; omega⟩
theorem PrS.below {w W W' : World} {u : Value} {n : Nat} (h : PrS w W u n) (hb : Below W.heap.size W W') : PrS w W' u n := ⟨h.bo.below hb, h.be.below hb, xtrans h.hb hb⟩
/-- Memory goes on but for the blocks of O. -/
def goesK (O : Nat → Prop) (Sg : Bool → World → Prop) (Qp : List PanicEntry → World → Prop) (k : Nat) (hk : ∀ b {W W'}, Sg b W → Below W.heap.size W W' → Sg b W') : Goes := ⟨fun W W' => Only O W W', Sg, Qp, k, fun W => Only.refl _ W, fun h g => h.trans g, fun h => Below.only h, hk⟩
/-- The ops whose names have been laid. -/
def seenK' (K seen : List Nat) : List Nat := seen.map fun j => K.getD j 0
/-- How many words are left. -/
def leftAt (W : World) (bk : Nat) : Nat := match W.cell? ⟨bk, 0, none⟩ with | some (.slice _ n _) => n | _ => 0
theorem WordsAt.left {W : World} {bk : Nat} {T : TypeId} {ws : List (List UInt8)} (h : WordsAt W bk T ws) : leftAt W bk = ws.length := by
  obtain ⟨a, c, hx, -⟩ := h
  unfold leftAt
  rw [hx.cell]
/-- In the second loop: the two boxes, the map of names, the words left; what has been read. -/
structure LpS (w : World) (bk : Nat) (K : List Nat) (ws : List (List UInt8)) (bs : List Nat) (W : World) : Prop where
  out : ∃ v, Box W w.heap.size v 32 ∧ W.ownsRow (bk + 1) 5 1 v bs.length ((natI bs).map (Value.int .u8))
  err : Box W (w.heap.size + 1) (.int .i64 (0 : Nat)) 40
  nms : W.heap[w.heap.size + 1 + 1]? = some (mapG (nmL K))
  wds : WordsAt W bk 84 ws
  hb : Below w.heap.size w W
theorem PrS.panic {w W W' : World} {bk : Nat} {K : List Nat} {ws : List (List UInt8)} {bs : List Nat} (h : LpS w bk K ws bs W) (ho : Only (· = bk) W W') (hbk : w.heap.size + 1 + 1 < bk) : ∃ v, PrS w W' v 0 := by
  obtain ⟨v, hv, -⟩ := h.out
  exact ⟨v, hv.only ho (by omega), h.err.only ho (by omega), ho.below h.hb h.hb.size (by rintro k rfl; omega)⟩
theorem zero_u8 (w : World) : (zeroValue 5).run Tryz.prog w = .ok (.int .u8 0) w := by kernel_rfl
theorem pw_bad {P : Option (List Nat)} {bs r x} (h : P = (parseW (x :: r)).map (bs ++ ·)) (hn : namedO x = none) (hb : bytesO x 1 = none) : P = none := by
  obtain ⟨h1, h2⟩ := pw_hex h hn
  unfold bytesO at hb
  cases hu : unhexN x with
  | none => exact h1 hu
  | some us =>
    rw [hu] at hb
    dsimp only at hb
    by_cases hl : us.length = 1
    · rw [if_pos hl] at hb; cases hb
    · exact (h2 us hu).1 hl
theorem rowV_only {O : Nat → Prop} {W W' : World} {a : Option Addr} {vs : List Value} (h : RowV W a vs) (ho : Only O W W') (hO : ∀ x, a = some x → ¬ O x.block) : RowV W' a vs := fun i hi => by
  obtain ⟨b, o, e, hc⟩ := h i hi
  exact ⟨b, o, e, ho.cell hc (show ¬ O b from hO ⟨b, o, none⟩ e)⟩
theorem LpS.next {w W W7 W9 W11 : World} {bk : Nat} {K : List Nat} {ws r : List (List UInt8)} {bs us : List Nat} {v v11 : Value} (h : LpS w bk K ws bs W) (hbk : w.heap.size + 1 + 1 < bk) (hbo : Box W w.heap.size v 32) (how : W.ownsRow (bk + 1) 5 1 v bs.length ((natI bs).map (Value.int .u8)))
    (ho : Only (· = bk) W W7) (hw : WordsAt W7 bk 84 r) (hb : Below W7.heap.size W7 W9) (hg : W9.grownBy W11 v.ownBlock) (o11 : W11.ownsRow (bk + 1) 5 1 v11 (bs.length + us.length) ((natI bs).map (Value.int .u8) ++ (natI us).map (Value.int .u8))) :
    LpS w bk K r (bs ++ us) (W11.setCell ⟨w.heap.size, 0, none⟩ v11) := by
  have hg' := only_grown hg
  have lo : ∀ k, v.ownBlock = some k → bk + 1 ≤ k := fun k e => (own_lt how e).1
  have os : Only (· = w.heap.size) W11 (W11.setCell ⟨w.heap.size, 0, none⟩ v11) := (Only.refl _ _).setCell _ _ rfl
  have b11 := ((hbo.only ho (by omega)).below hb).only hg' (fun e => by have := lo _ e; omega)
  have e11 := ((h.err.only ho (by omega)).below hb).only hg' (fun e => by have := lo _ e; omega)
  have n0 := (Array.getElem?_eq_some_iff.1 h.nms).1
  have s7 := ho.size
  have s9 := hb.size
  have s11 := hg'.size
  have n11 : W11.heap[w.heap.size + 1 + 1]? = some (mapG (nmL K)) := (hg'.same _ (by omega) (fun e => by have := lo _ e; omega)).trans ((hb.block _ (by omega)).trans ((ho.same _ n0 (by omega)).trans h.nms))
  obtain ⟨a, c, hx, q1, q2, hr, hlo⟩ := hw.below hb
  have hx11 := hx.only hg' (fun e => by have := lo _ e; omega)
  have hr11 := rowV_only hr hg' (fun x e e2 => by have := lo _ e2; have := hlo x e; omega)
  have hbw := ho.below h.hb h.hb.size (by rintro j rfl; omega)
  have hbw9 := xtrans hbw hb
  have hbw11 := hg'.below hbw9 hbw9.size (fun j e => by have := lo _ e; omega)
  have hne := own_ne o11 b11 (by decide)
  refine ⟨⟨v11, b11.set _, ?_⟩, e11.only os (by omega), (os.same _ (by omega) (by omega)).trans n11, ⟨a, c, hx11.only os (by omega), q1, q2, ?_, hlo⟩, os.below hbw11 hbw11.size (by rintro j rfl; omega)⟩
  · rw [List.length_append, natI_app, List.map_append]
    exact own_same o11 fun g hg hl => os.same g hl fun e => hne (by rw [hg, e])
  · obtain ⟨av, cv, rfl⟩ := own_slice how
    exact row_off b11 (fun l e => by cases e) hr11 os
theorem bytesO_un {x : List UInt8} {m : Nat} {us : List Nat} (h : bytesO x m = some us) : unhexN x = some us ∧ us.length = m := by
  unfold bytesO at h
  cases hu : unhexN x with
  | none => rw [hu] at h; cases h
  | some u =>
    rw [hu] at h
    dsimp only at h
    by_cases hl : u.length = m
    · rw [if_pos hl] at h; cases h; exact ⟨rfl, hl⟩
    · rw [if_neg hl] at h; cases h
theorem pw_end2 {P : Option (List Nat)} {bs r x op} (h : P = (parseW (x :: r)).map (bs ++ ·)) (hn : namedO x = some op) (hz : ¬ szN op = 0) (hp : ∀ y r2, r = y :: r2 → bytesO y (szN op) = none) : P = none := by
  cases r with
  | nil => exact pw_end h hn hz
  | cons y r2 =>
    obtain ⟨h1, h2⟩ := pw_two h hn hz
    have hb := hp y r2 rfl
    unfold bytesO at hb
    cases hu : unhexN y with
    | none => exact h1 hu
    | some us =>
      rw [hu] at hb
      dsimp only at hb
      by_cases hl : us.length = szN op
      · rw [if_pos hl] at hb; cases hb
      · exact (h2 us hu).1 hl
theorem OwnU.is {w w' : World} {v : Value} {us : List Nat} (h : OwnU w w' v us) : ∃ a c, v = .slice a us.length c := by
  obtain ⟨a, c, e, -⟩ := h.at
  exact ⟨a, c, e⟩
/-- An owned row of bytes, however the words' box goes on. -/
def ownT {bk : Nat} {W12 : World} (hk : bk < W12.heap.size) (us : List Nat) : ToldS (fun W W' => Only (· = bk) W W') :=
  ⟨fun v => ∃ a c, v = .slice a us.length c, fun v W => OwnU W12 W v us, ⟨.slice none us.length 0, none, 0, rfl⟩, fun v W W' h ho => own_same h fun g hg hl => ho.same g hl fun e => by have := (own_lt h hg).1; omega⟩
set_option maxRecDepth 100000 in
set_option maxHeartbeats 16000000 in
theorem parse_some (s : List UInt8) (m0 : Int) (w : World) (hs : s ≠ []) (hl : s.length ≤ 65536) (hm0 : w.cell? ⟨0, 0, none⟩ = some (.int .i64 m0)) :
    Calls Tryz.prog 16 #[.string ⟨s.toArray⟩] w fun e w' => (∃ v, e = .returned (.tuple #[v, .int .i64 (parseNo s : Nat)]) ∧ OwnU w w' v (parseL s)) ∧ Below w.heap.size w w' := by
  have hmf : ∀ (fn : Fn) (first cap : Array Value) (w : World), (Instr.makeFunc fn first cap).run Tryz.prog w = .ok (.func fn first cap) w := fun _ _ _ _ => rfl
  have hsz : (⟨s.toArray⟩ : ByteArray).size = s.length := by show s.toArray.size = _; simp
  have hlI : (s.length : Int) ≤ 65536 := by omega
  have hse : s.isEmpty = false := by cases s with
    | nil => exact absurd rfl hs
    | cons _ _ => rfl
  have h0 := Lib.hid (PrS.new w)
  have hs0 : Hid (((w.alloc (.cells #[.slice none 0 0] 32)).alloc (.cells #[.int .i64 0] 40)).heap.size = w.heap.size + 2) := Lib.hid (by simp)
  have hm := Lib.hid fun W => mustC_true 3 W
  have hb1 : Hid (PrS w (((w.alloc (.cells #[.slice none 0 0] 32)).alloc (.cells #[.int .i64 0] 40)).alloc (mapG (nmL []))) (.slice none 0 0) 0) := Lib.hid (h0.out.below (xalloc (xrefl _) _))
  have hN1 : Hid ((((w.alloc (.cells #[.slice none 0 0] 32)).alloc (.cells #[.int .i64 0] 40)).alloc (mapG (nmL []))).heap[w.heap.size + 1 + 1]? = some (mapG (nmL []))) := Lib.hid (by
    have := World.alloc_heap_new ((w.alloc (.cells #[.slice none 0 0] 32)).alloc (.cells #[.int .i64 0] 40)) (mapG (nmL []))
    rwa [hs0.out] at this)
  have hs1 : Hid ((((w.alloc (.cells #[.slice none 0 0] 32)).alloc (.cells #[.int .i64 0] 40)).alloc (mapG (nmL []))).heap.size = w.heap.size + 1 + 1 + 1) := Lib.hid (by simp)
  have hmm : ∀ w, (Instr.makeMap 78 none).run Tryz.prog w = .ok (.map (some w.heap.size)) (w.alloc (mapG (nmL []))) := fun _ => rfl
  have htab := Lib.hid fun W => table_any W
  replace hm0 := Lib.hid hm0
  go_enter_defers Tryz.func16, Tryz.ntmps16
  go_wp2_with (first
    | (go_at_call 40; refine (hm.out _).mono ?_; rintro e w3 ⟨rfl, rfl⟩)
    | (go_at_call 31; refine (htab.out _).mono ?_; rintro e w2 ⟨⟨K, rfl, hT, hK⟩, hb2⟩; rw [hs1.out] at hT; have hP2 := Lib.hid (hb1.out.below hb2); have hN2 := Lib.hid ((hb2.block _ (by have := hs1.out; omega)).trans hN1.out); have hrg := range_mapI (P := Tryz.prog) (t := 66) Tryz.underlying66 hT; replace hT := Lib.hid hT; replace hK := Lib.hid hK; replace hb2 := Lib.hid hb2))
  have hTl : w.heap.size + 1 + 1 + 1 < w2.heap.size := (Array.getElem?_eq_some_iff.1 hT.out).1
  obtain ⟨it, hit⟩ : ∃ it, it = w2.heap.size := ⟨_, rfl⟩
  have hb3 : Below w2.heap.size w2 (w2.alloc (itO (w.heap.size + 1 + 1 + 1) (tabL K).length [])) := xalloc (xrefl _) _
  have hi3 : Hid ((w2.alloc (itO (w.heap.size + 1 + 1 + 1) (tabL K).length [])).heap[it]? = some (itO (w.heap.size + 1 + 1 + 1) (tabL K).length [])) := Lib.hid (by rw [hit]; exact World.alloc_heap_new w2 _)
  have hT3 : Hid ((w2.alloc (itO (w.heap.size + 1 + 1 + 1) (tabL K).length [])).heap[w.heap.size + 1 + 1 + 1]? = some (mapI .u8 (tabL K))) := Lib.hid ((hb3.block _ hTl).trans hT.out)
  have hN3 : Hid ((w2.alloc (itO (w.heap.size + 1 + 1 + 1) (tabL K).length [])).heap[w.heap.size + 1 + 1]? = some (mapG (nmL (seenK' K [])))) := Lib.hid ((hb3.block _ (by omega)).trans hN2.out)
  have hP3 := Lib.hid (hP2.out.below hb3)
  rw [← hit]
  have hitl : w.heap.size + 1 + 1 + 1 < it := by omega
  clear hb3 hrg hit
  generalize w2.alloc (itO (w.heap.size + 1 + 1 + 1) (tabL K).length []) = w3 at *
  clear hT hN2 hP2 hb2 hN1 hb1 h0 hs0 hs1
  have hs3 : Hid (∀ j ∈ ([] : List Nat), j < (tabL K).length) := Lib.hid fun j h => by cases h
  go_loopw [5] (fun _ wx => ∃ seen : List Nat, Hid (seen.Nodup ∧ ∀ j ∈ seen, j < (tabL K).length) ∧ Hid (wx.heap[it]? = some (itO (w.heap.size + 1 + 1 + 1) (tabL K).length seen)) ∧ Hid (wx.heap[w.heap.size + 1 + 1 + 1]? = some (mapI .u8 (tabL K))) ∧ Hid (wx.heap[w.heap.size + 1 + 1]? = some (mapG (nmL (seenK' K seen)))) ∧ Hid (PrS w wx (.slice none 0 0) 0)) (fun _ wx => (tabL K).length - seenAt wx it)
  case atStart => exact ⟨[], Lib.hid ⟨List.nodup_nil, hs3.out⟩, hi3, hT3, hN3, hP3⟩
  case round =>
    clear hi3 hT3 hN3 hP3 hs3
    obtain ⟨seen, hsn, hi, hT, hN, hP⟩ := hrel
    rcases next_mapI (P := Tryz.prog) 0 hi.out hT.out with ⟨hall, hrun⟩ | ⟨j, hj, hns, W2, hrun, hon, hi2⟩
    · have hrun' : ∀ ty, (Instr.next (.pointer (some ⟨it, 0, none⟩)) false ty).run Tryz.prog wr = _ := fun ty => hrun
      have hKa : Hid (∀ c, c ∈ seenK' K seen ↔ c < 256 ∧ namedN c = true) := Lib.hid fun c => by
        rw [← hK.out.2 c]
        unfold seenK'
        rw [List.mem_map]
        constructor
        · rintro ⟨i, hi9, rfl⟩
          have hiK : i < K.length := by have := hsn.out.2 i hi9; rwa [tabL_len] at this
          rw [getD_lt _ hiK]
          exact List.getElem_mem hiK
        · intro hc
          obtain ⟨i, hiK, rfl⟩ := List.getElem_of_mem hc
          exact ⟨i, hall i (by rw [tabL_len]; exact hiK), by rw [getD_lt _ hiK]⟩
      generalize seenK' K seen = KN at *
      have hsp := Lib.hid (split_any s m0 wr hl (cbel hP.out.hb hm0.out))
      clear hall hrun hsn hi hT
      go_wp2_with (go_at_call 41; refine hsp.out.mono ?_; rintro e w5 ⟨⟨a5, c5, rfl, hc1, hc2, hr5, hlo5⟩, hb5⟩; replace hr5 := Lib.hid hr5; have hP5 := Lib.hid (hP.out.below hb5); have hN5 := Lib.hid ((hb5.block _ (Array.getElem?_eq_some_iff.1 hN.out).1).trans hN.out); replace hb5 := Lib.hid hb5)
      have hL : Hid (LpS w w5.heap.size KN (splS 32 s) [] (w5.alloc (.cells #[.slice a5 (splS 32 s).length c5] 84))) := Lib.hid (by
        have hbx := xalloc (xrefl w5) (.cells #[.slice a5 (splS 32 s).length c5] 84)
        have h9 := hP5.out.below hbx
        exact ⟨⟨_, h9.bo, ⟨rfl, .inl ⟨rfl, rfl⟩⟩⟩, h9.be, (hbx.block _ (Array.getElem?_eq_some_iff.1 hN5.out).1).trans hN5.out, ⟨a5, c5, Box.new w5 _ _, hc1, hc2, hr5.out.below hbx, hlo5⟩, h9.hb⟩)
      have hww : Hid (∀ x ∈ splS 32 s, x.length ≤ 65536) := Lib.hid fun x hx => by have := (spl_size 32 s).2 x hx; omega
      have hP0 : Hid (parseW (splS 32 s) = (parseW (splS 32 s)).map ([] ++ ·)) := Lib.hid (by cases parseW (splS 32 s) <;> simp)
      have hnl : (splS 32 s).length ≤ 65537 := by have := (spl_size 32 s).1; omega
      have hpar : Hid ((parseW (splS 32 s) = none → parseNo s = 200 ∧ parseL s = []) ∧ ∀ l, parseW (splS 32 s) = some l → parseNo s = 0 ∧ parseL s = l) := Lib.hid (by
        have hC : parseC s = parseW (splS 32 s) := by unfold parseC; rw [if_neg hs]
        have hlong : ¬ 65536 < s.length := by omega
        exact ⟨fun e => ⟨by unfold parseNo; rw [if_neg hlong, hC, e], by unfold parseL; rw [if_neg hlong, hC, e]; rfl⟩, fun l e => ⟨by unfold parseNo; rw [if_neg hlong, hC, e], by unfold parseL; rw [if_neg hlong, hC, e]; rfl⟩⟩)
      have hbk : w.heap.size + 1 + 1 < w5.heap.size := (Array.getElem?_eq_some_iff.1 hN5.out).1
      clear hP5 hN5 hr5 hlo5 hP hN hrun' hsp hb5
      generalize w5.alloc (.cells #[.slice a5 (splS 32 s).length c5] 84) = w6 at *
      generalize w5.heap.size = bk at *
      generalize hS : splS 32 s = S0 at *
      clear hS
      go_loopw [8] (fun _ wx => ∃ (ws : List (List UInt8)) (bs : List Nat), Hid (LpS w bk KN ws bs wx) ∧ Hid (parseW S0 = (parseW ws).map (bs ++ ·)) ∧ ws.length ≤ 65537 ∧ bs.length + 40 * ws.length ≤ 40 * 65537 ∧ Hid (∀ x ∈ ws, x.length ≤ 65536)) (fun _ wx => leftAt wx bk)
      case atStart => exact ⟨S0, [], hL, hP0, hnl, by simp; omega, hww⟩
      case round =>
        clear hL hP0 hww hnl
        obtain ⟨ws, bs, hL, hpw, hwl, hbl, hww⟩ := hrel
        have hleft := hL.out.wds.left
        obtain ⟨v, hbo, how⟩ := hL.out.out
        cases ws with
        | nil =>
          have hfin : Hid (parseNo s = 0 ∧ parseL s = bs) := Lib.hid (hpar.out.2 bs (by rw [hpw.out, parseW]; simp))
          obtain ⟨aw, cw, hx, -⟩ := hL.out.wds
          have hcx := hx.cell
          rw [List.length_nil] at hcx
          have cv := hbo.cell
          have fv := hbo.free
          have o1 : Only (· = w.heap.size) wr (wr.setCell ⟨w.heap.size, 0, none⟩ v) := (Only.refl _ _).setCell _ _ rfl
          have b1 := hbo.set v
          have e1 := hL.out.err.only o1 (by omega)
          have ce := e1.cell
          have fe := e1.free
          have o2 : Only (· = w.heap.size + 1) (wr.setCell ⟨w.heap.size, 0, none⟩ v) ((wr.setCell ⟨w.heap.size, 0, none⟩ v).setCell ⟨w.heap.size + 1, 0, none⟩ (.int .i64 (0 : Nat))) := (Only.refl _ _).setCell _ _ rfl
          have b2 := b1.only o2 (by omega)
          have e2 := e1.set (.int .i64 (0 : Nat))
          have hb1' := o1.below hL.out.hb hL.out.hb.size (by rintro k rfl; omega)
          have hb2' := Lib.hid (o2.below hb1' hb1'.size (by rintro k rfl; omega))
          have hne1 := own_ne how hbo (by decide)
          have hne2 := own_ne how hL.out.err (by decide)
          have how2 : Hid (OwnU w ((wr.setCell ⟨w.heap.size, 0, none⟩ v).setCell ⟨w.heap.size + 1, 0, none⟩ (.int .i64 (0 : Nat))) v bs) := Lib.hid (by
            have how0 : wr.ownsRow w.heap.size 5 1 v bs.length ((natI bs).map (Value.int .u8)) := ⟨how.1, by
              rcases how.2 with h0 | ⟨g, cap, cur, e, hg, r⟩
              · exact .inl h0
              · exact .inr ⟨g, cap, cur, e, by omega, r⟩⟩
            have h1 := own_same how0 (w' := wr.setCell ⟨w.heap.size, 0, none⟩ v) fun g hg hl => o1.same g hl fun e => hne1 (by rw [hg, e])
            exact own_same h1 fun g hg hl => o2.same g hl fun e => hne2 (by rw [hg, e]))
          obtain ⟨av, cv2, rfl⟩ := own_slice how
          replace b2 := Lib.hid b2
          replace e2 := Lib.hid e2
          clear hbo how o1 o2 b1 e1 hb1' hne1 hne2 hx hL hww hpw
          go_wp2
          refine leaves_cons (f := 38) (args := #[.pointer (some ⟨w.heap.size + 1, 0, none⟩), .func (.func 39) #[] #[.pointer (some ⟨w.heap.size, 0, none⟩)]]) (by simp) (by simp [go_sem]) ?_
          refine (caught_idle ⟨w.heap.size + 1, 0, none⟩ ⟨w.heap.size, 0, none⟩ _).mono ?_
          rintro e u' w'' ⟨rfl, rfl, rfl⟩
          refine ⟨_, results_two (p := 2) (r := 3) rfl _ _ w.heap.size (w.heap.size + 1) _ _ rfl (load_row _ _ _ _ b2.out) rfl (load_err _ _ _ _ e2.out), ⟨.slice av bs.length cv2, ?_, ?_⟩, hb2'.out⟩
          · rw [hfin.out.1]
          · rw [hfin.out.2]; exact how2.out
        | cons x r =>
          obtain ⟨aw, cw, hx, hw1, hw2, hwr, hwlo⟩ := hL.out.wds
          obtain ⟨b, o, rfl, hc⟩ := hwr 0 (by simp)
          have hc0 : wr.cell? ⟨b, o, none⟩ = some (.string ⟨x.toArray⟩) := hc
          have hcx := hx.cell
          rw [List.length_cons] at hcx
          have hl0 : (0 : Int) < (r.length : Int) + 1 := by omega
          have hlk := run_lookN (P := Tryz.prog) Tryz.underlying78 Tryz.underlying9 zero_u8 x wr (w.heap.size + 1 + 1) KN hL.out.nms
          rw [nm_all hKa.out] at hlk
          have hxl := hww.out x (by simp)
          clear hc hwr hx hwlo
          cases hop : namedO x with
          | none =>
            rw [hop] at hlk
            simp only [Option.map_none, Option.getD_none, Option.isSome_none] at hlk
            cases hby : bytesO x 1 with
            | none =>
              have hfin := Lib.hid (hpar.out.1 (pw_bad hpw.out hop hby))
              have hbf := Lib.hid (bytes_fail bk 84 x r 1 wr hL.out.wds (by omega) (by omega) hby)
              clear hbo how hpw
              go_wp2_with (go_at_call 42; refine hbf.out.mono ?_; rintro e w7 ⟨rfl, ho7⟩; replace ho7 := Lib.hid ho7)
              obtain ⟨v7, h7⟩ := PrS.panic hL.out ho7.out hbk
              have h8 := h7.off 200
              refine leaves_cons (f := 38) (args := #[.pointer (some ⟨w.heap.size + 1, 0, none⟩), .func (.func 39) #[] #[.pointer (some ⟨w.heap.size, 0, none⟩)]]) (by simp) (by simp [go_sem]) ?_
              refine (caught_panicking ⟨w.heap.size + 1, 0, none⟩ ⟨w.heap.size, 0, none⟩ 200 _ _ _ h7.be.cell h7.be.free (h7.bo.only ((Only.refl (· = w.heap.size + 1) _).setCell _ _ rfl) (by omega)).cell (h7.bo.only ((Only.refl (· = w.heap.size + 1) _).setCell _ _ rfl) (by omega)).free).mono ?_
              rintro e u' w'' ⟨rfl, rfl, rfl⟩
              refine ⟨_, results_two (p := 2) (r := 3) rfl _ _ w.heap.size (w.heap.size + 1) _ _ rfl (load_row _ _ _ _ h8.bo) rfl (load_err _ _ _ _ h8.be), ⟨.slice none 0 0, ?_, ?_⟩, h8.hb⟩
              · rw [hfin.out.1]
              · rw [hfin.out.2]; exact OwnU.nil _ _
            | some us =>
              obtain ⟨hu, hul⟩ : unhexN x = some us ∧ us.length = 1 := by
                unfold bytesO at hby
                cases hu : unhexN x with
                | none => rw [hu] at hby; cases hby
                | some u =>
                  rw [hu] at hby
                  dsimp only at hby
                  by_cases hl : u.length = 1
                  · rw [if_pos hl] at hby; cases hby; exact ⟨rfl, hl⟩
                  · rw [if_neg hl] at hby; cases hby
              obtain ⟨b0, rfl⟩ : ∃ b0, us = [b0] := by
                match us, hul with
                | [b], _ => exact ⟨b, rfl⟩
              have h256 := (unhexN_some hu).2 b0 (by simp)
              obtain ⟨hpn, hpg⟩ := ((pw_hex hpw.out hop).2 [b0] hu).2 b0 rfl
              have hbs := Lib.hid (bytes_some bk 84 x r 1 [b0] wr hL.out.wds (by omega) (by omega) hby)
              have hI := Lib.hid fun W => info_any b0 W h256
              cases hnb : namedN b0 with
              | true =>
                rw [hnb] at hI
                have hfin := Lib.hid (hpar.out.1 (hpn hnb))
                have hmf2 := Lib.hid fun W => mustC_false 200 W
                unfold infoV at hI
                generalize infoN b0 = X at *
                obtain ⟨nm, iN, oN, gN, qN, zN⟩ := X
                simp only at hI
                clear hbo how hpw hpn hpg hu
                go_wp2_with (first
                  | (go_at_call 42; refine hbs.out.mono ?_; rintro e w7 ⟨⟨v7, rfl, hv7⟩, hW7, ho7⟩; obtain ⟨a7, c7, rfl, hr7, hn7⟩ := hv7.at; obtain ⟨b7, o7, rfl, hc7⟩ := hr7 0 (by simp [natI]); replace hc7 : w7.cell? ⟨b7, o7 + 0, none⟩ = some (.int .u8 (b0 : Int)) := hc7; have hc7' : w7.cell? ⟨b7, o7, none⟩ = some (.int .u8 (b0 : Int)) := hc7; replace ho7 := Lib.hid ho7; clear hv7 hr7)
                  | (go_at_call 9; refine (hI.out _).mono ?_; rintro e w8 ⟨rfl, hb8⟩; replace hb8 := Lib.hid hb8)
                  | (go_at_call 40; refine (hmf2.out _).mono ?_; rintro e w9 ⟨rfl, rfl⟩))
                obtain ⟨v7, h7⟩ := PrS.panic hL.out ho7.out hbk
                replace h7 := (h7.below hb8.out).below (xalloc (xrefl w8) (.cells #[.string ⟨nm.toArray⟩, .int .i64 iN, .int .i64 oN, .int .u64 gN, .bool qN, .int .i64 zN] 25))
                have h8 := h7.off 200
                refine leaves_cons (f := 38) (args := #[.pointer (some ⟨w.heap.size + 1, 0, none⟩), .func (.func 39) #[] #[.pointer (some ⟨w.heap.size, 0, none⟩)]]) (by simp) (by simp [go_sem]) ?_
                refine (caught_panicking ⟨w.heap.size + 1, 0, none⟩ ⟨w.heap.size, 0, none⟩ 200 _ _ _ h7.be.cell h7.be.free (h7.bo.only ((Only.refl (· = w.heap.size + 1) _).setCell _ _ rfl) (by omega)).cell (h7.bo.only ((Only.refl (· = w.heap.size + 1) _).setCell _ _ rfl) (by omega)).free).mono ?_
                rintro e u' w'' ⟨rfl, rfl, rfl⟩
                refine ⟨_, results_two (p := 2) (r := 3) rfl _ _ w.heap.size (w.heap.size + 1) _ _ rfl (load_row _ _ _ _ h8.bo) rfl (load_err _ _ _ _ h8.be), ⟨.slice none 0 0, ?_, ?_⟩, h8.hb⟩
                · rw [hfin.out.1]
                · rw [hfin.out.2]; exact OwnU.nil _ _
              | false =>
                rw [hnb] at hI
                obtain ⟨i0, hi0, hz0, hz1, hz2⟩ := info_parts info_u8
                have hrl := Lib.hid (hpg hnb)
                have hmt2 := Lib.hid fun W => mustC_true 200 W
                unfold infoV at hI
                generalize infoN b0 = X at *
                obtain ⟨nm, iN, oN, gN, qN, zN⟩ := X
                simp only at hI
                obtain ⟨av, cv2, rfl⟩ := own_slice how
                replace hbo := Lib.hid hbo
                replace how := Lib.hid how
                rw [List.length_cons] at hwl hbl
                clear hpw hpn hpg hu
                go_wp2_with (first
                  | (go_at_call 42; refine hbs.out.mono ?_; rintro e w7 ⟨⟨v7, rfl, hv7⟩, hW7, ho7⟩; obtain ⟨a7, c7, rfl, hr7, hn7⟩ := hv7.at; obtain ⟨b7, o7, rfl, hc7⟩ := id hr7 0 (by simp [natI]); replace hc7 : w7.cell? ⟨b7, o7 + 0, none⟩ = some (.int .u8 (b0 : Int)) := hc7; have hc7' : w7.cell? ⟨b7, o7, none⟩ = some (.int .u8 (b0 : Int)) := hc7; replace ho7 := Lib.hid ho7; replace hr7 := Lib.hid hr7; replace hW7 := Lib.hid hW7; clear hv7)
                  | (go_at_call 9; refine (hI.out _).mono ?_; rintro e w8 ⟨rfl, hb8⟩; have hb9 : Hid (Below w7.heap.size w7 (w8.alloc (.cells #[.string ⟨nm.toArray⟩, .int .i64 iN, .int .i64 oN, .int .u64 gN, .bool qN, .int .i64 zN] 25))) := Lib.hid (xalloc hb8 _); have hb7 := Lib.hid ((hbo.out.only ho7.out (by omega)).below hb9.out); have hc9 := hb7.out.cell; have how9 := Lib.hid (own_keep (own_same how.out (w' := w7) fun g hg hl => ho7.out.same g hl fun e => by have := (own_lt how.out hg).1; omega) hb9.out); have hr9 := Lib.hid (hr7.out.below hb9.out); have hbk9 : bk + 1 ≤ (w8.alloc (.cells #[.string ⟨nm.toArray⟩, .int .i64 iN, .int .i64 oN, .int .u64 gN, .bool qN, .int .i64 zN] 25)).heap.size := (by obtain ⟨_, _, hq, -⟩ := hW7.out; have h1 := hq.lt; have h2 := hb9.out.size; omega); have hne9 := Lib.hid (own_ne how9.out hb7.out (by decide)); replace hb8 := Lib.hid hb8)
                  | (go_at_call 40; refine (hmt2.out _).mono ?_; rintro e w9 ⟨rfl, rfl⟩)
                  | (at_builtin; refine wpList_append_row (w8.alloc (.cells #[.string ⟨nm.toArray⟩, .int .i64 iN, .int .i64 oN, .int .u64 gN, .bool qN, .int .i64 zN] 25)) rfl _ _ 32 rfl (bk + 1) 5 i0 (.int .u8 0) 1 Tryz.underlying32 hi0 hz0 hz1 hz2 rfl _ bs.length _ rfl how9.out (some ⟨b7, o7, none⟩) c7 .u8 (natI [b0]) rfl (by simp) hr9.out (by unfold maxLen; simp [natI]; omega) (by simp [natI]; omega) hbk9 ?_; intro v11 W11 o11 hg11; have hL11 := Lib.hid (LpS.next (us := [b0]) hL.out hbk hbo.out how.out ho7.out hW7.out hb9.out hg11 o11); have h11 := hb7.out.only (only_grown hg11) hne9.out; have c11 := h11.cell; have f11 := h11.free; obtain ⟨a11, d11, rfl⟩ := own_slice o11; clear hg11 o11 h11))
                refine ⟨⟨r, bs ++ [b0], hL11, hrl, by omega, by simp; omega, Lib.hid fun y hy => hww.out y (by simp [hy])⟩, ?_⟩
                rw [hL11.out.wds.left, hleft]
                simp
          | some op =>
            rw [hop] at hlk
            simp only [Option.map_some, Option.getD_some, Option.isSome_some] at hlk
            obtain ⟨i0, hi0, hz0, hz1, hz2⟩ := info_parts info_u8
            have hop2 := (named_some hop).1
            have htk := Lib.hid (take_one bk 84 x r wr hL.out.wds)
            have hsz2 := Lib.hid fun W => size_any op W hop2
            obtain ⟨av, cv2, rfl⟩ := own_slice how
            replace hbo := Lib.hid hbo
            replace how := Lib.hid how
            rw [List.length_cons] at hwl hbl
            by_cases hz : szN op = 0
            · have hrl := Lib.hid (pw_one hpw.out hop hz)
              rw [hz] at hsz2
              clear hpw
              go_wp2_with (first
                | (go_at_call 43; refine htk.out.mono ?_; rintro e w7 ⟨rfl, hW7, ho7⟩; replace ho7 := Lib.hid ho7; replace hW7 := Lib.hid hW7; have hb9 : Hid (Below w7.heap.size w7 (w7.alloc (.cells #[.int .u8 (op : Int)] 5))) := Lib.hid (xalloc (xrefl w7) _); have hb6 := hbo.out.only ho7.out (by omega); have hc6 := hb6.cell; have hb7 := Lib.hid (hb6.below hb9.out); have how9 := Lib.hid (own_keep (own_same how.out (w' := w7) fun g hg hl => ho7.out.same g hl fun e => by have := (own_lt how.out hg).1; omega) hb9.out); have hbk9 : bk + 1 ≤ (w7.alloc (.cells #[.int .u8 (op : Int)] 5)).heap.size := (by obtain ⟨_, _, hq, -⟩ := hW7.out; have h1 := hq.lt; rw [World.size_alloc]; omega); have hne9 := Lib.hid (own_ne how9.out hb7.out (by decide)))
                | (go_at_call 34; refine (hsz2.out _).mono ?_; rintro e w9 ⟨rfl, rfl⟩)
                | (at_builtin; refine wpList_append_row (w7.alloc (.cells #[.int .u8 (op : Int)] 5)) rfl _ _ 32 rfl (bk + 1) 5 i0 (.int .u8 0) 1 Tryz.underlying32 hi0 hz0 hz1 hz2 rfl _ bs.length _ rfl how9.out (some ⟨w7.heap.size, 0, none⟩) 1 .u8 [(op : Int)] rfl (by simp) (rowAt_one w7 5 (op : Int)) (by unfold maxLen; simp; omega) (by simp; omega) hbk9 ?_; intro v11 W11 o11 hg11; have hL11 := Lib.hid (LpS.next (us := [op]) hL.out hbk hbo.out how.out ho7.out hW7.out hb9.out hg11 o11); have h11 := hb7.out.only (only_grown hg11) hne9.out; have c11 := h11.cell; have f11 := h11.free; obtain ⟨a11, d11, rfl⟩ := own_slice o11; clear hg11 o11 h11))
              refine ⟨⟨r, bs ++ [op], hL11, hrl, by omega, by simp; omega, Lib.hid fun y hy => hww.out y (by simp [hy])⟩, ?_⟩
              have hle := hL11.out.wds.left
              simp only [List.length_cons, List.length_nil, Nat.zero_add] at hle
              rw [hle, hleft]
              simp
            · have hzI : (0 : Int) < (szN op : Int) := by omega
              have hz32 := szN_le op
              go_wp2_with (first
                | (go_at_call 43; refine htk.out.mono ?_; rintro e w7 ⟨rfl, hW7, ho7⟩; replace ho7 := Lib.hid ho7; replace hW7 := Lib.hid hW7; have hb9 : Hid (Below w7.heap.size w7 (w7.alloc (.cells #[.int .u8 (op : Int)] 5))) := Lib.hid (xalloc (xrefl w7) _); have hb6 := hbo.out.only ho7.out (by omega); have hc6 := hb6.cell; have hb7 := Lib.hid (hb6.below hb9.out); have how9 := Lib.hid (own_keep (own_same how.out (w' := w7) fun g hg hl => ho7.out.same g hl fun e => by have := (own_lt how.out hg).1; omega) hb9.out); have hbk9 : bk + 1 ≤ (w7.alloc (.cells #[.int .u8 (op : Int)] 5)).heap.size := (by obtain ⟨_, _, hq, -⟩ := hW7.out; have h1 := hq.lt; rw [World.size_alloc]; omega); have hne9 := Lib.hid (own_ne how9.out hb7.out (by decide)))
                | (go_at_call 34; refine (hsz2.out _).mono ?_; rintro e w9 ⟨rfl, rfl⟩)
                | (at_builtin; refine wpList_append_row (w7.alloc (.cells #[.int .u8 (op : Int)] 5)) rfl _ _ 32 rfl (bk + 1) 5 i0 (.int .u8 0) 1 Tryz.underlying32 hi0 hz0 hz1 hz2 rfl _ bs.length _ rfl how9.out (some ⟨w7.heap.size, 0, none⟩) 1 .u8 [(op : Int)] rfl (by simp) (rowAt_one w7 5 (op : Int)) (by unfold maxLen; simp; omega) (by simp; omega) hbk9 ?_; intro v11 W11 o11 hg11; have hL11 := Lib.hid (LpS.next (us := [op]) hL.out hbk hbo.out how.out ho7.out hW7.out hb9.out hg11 o11); have h11 := hb7.out.only (only_grown hg11) hne9.out; have c11 := h11.cell; have f11 := h11.free; obtain ⟨a11, d11, rfl⟩ := own_slice o11; clear hg11 o11 h11))
              generalize W11.setCell _ _ = W12 at hL11 ⊢
              obtain ⟨v12, hbo12, how12⟩ := hL11.out.out
              obtain ⟨a12, d12, rfl⟩ := own_slice how12
              by_cases hpan : (∀ y r2, r = y :: r2 → bytesO y (szN op) = none)
              · have hfin := Lib.hid (hpar.out.1 (pw_end2 hpw.out hop hz hpan))
                have hbp : Hid (∀ W, WordsAt W bk 84 r → Calls Tryz.prog 42 #[.pointer (some ⟨bk, 0, none⟩), .int .i64 (szN op)] W fun e w' => e = .panicked (errP 200) ∧ Only (· = bk) W w') := Lib.hid fun W hW => by
                  cases r with
                  | nil => exact bytes_empty bk _ _ W hW
                  | cons y r2 => exact bytes_fail bk _ y r2 _ W hW (by have := hww.out y (by simp); omega) (by omega) (hpan y r2 rfl)
                refine' wp_region_growSR (goesK (· = bk) (fun b W => b = false → WordsAt W bk 84 r) (fun ch W' => ch = errP 200 ∧ Only (· = bk) W12 W') 3 (fun _ _ _ h hb e => (h e).below hb)) 4 [fixdS _, fixdS _, fixdS _, neverT] (by kernel_rfl) (by kernel_rfl) (fun _ => hL11.out.wds) (fun x ch W hd h => ?_) ?_
                rotate_left 4
                simp only [List.take_succ_cons, List.take_zero, List.drop_succ_cons, List.drop_zero]
                try simp only [Act.put, List.setIfInBounds_toArray, List.set_cons_succ, List.set_cons_zero, List.nil_append, List.cons_append]
                refine' wpGrowS_fix _ rfl rfl rfl (fun b W hS hb _ => by have c := (hbo12.only hb (by omega)).cell; go_simp; first | exact xrefl W | exact ⟨rfl, xrefl W⟩) ?_
                try simp only [Act.put, List.setIfInBounds_toArray, List.set_cons_succ, List.set_cons_zero, List.nil_append, List.cons_append]
                refine' wpGrowS_fix _ rfl rfl rfl (fun b W hS hb _ => by go_simp; first | exact xrefl W | exact ⟨rfl, xrefl W⟩) ?_
                try simp only [Act.put, List.setIfInBounds_toArray, List.set_cons_succ, List.set_cons_zero, List.nil_append, List.cons_append]
                refine' wpGrowS_fix _ rfl rfl rfl (fun b W hS hb _ => by go_simp; first | exact xrefl W | exact ⟨rfl, xrefl W⟩) ?_
                try simp only [Act.put, List.setIfInBounds_toArray, List.set_cons_succ, List.set_cons_zero, List.nil_append, List.cons_append]
                refine wpGrowS_any neverT rfl rfl (fun b W hk0 hS hb _ => ?_) (fun v hv => ?_)
                · have hS2 := hS (hk0 rfl)
                  go_simp
                  go_at_call 42
                  refine (hbp.out W hS2).mono ?_
                  rintro e w' ⟨rfl, hb'⟩
                  exact .inr ⟨_, rfl, rfl, Only.trans hb hb'⟩
                · exact wpGrowS_nil fun W' _ _ hmem => (hmem 3 (by decide)).elim
                obtain ⟨rfl, ho12⟩ := h
                obtain ⟨v7, h7⟩ := PrS.panic hL11.out ho12 hbk
                have h8 := h7.off 200
                have hd2 : x.tmps.getD 2 undef = .pointer (some ⟨w.heap.size, 0, none⟩) := by
                  have := hd.2 2 (by kernel_rfl)
                  rw [Array.getD_eq_getD_getElem?, this]; rfl
                have hd3 : x.tmps.getD 3 undef = .pointer (some ⟨w.heap.size + 1, 0, none⟩) := by
                  have := hd.2 3 (by kernel_rfl)
                  rw [Array.getD_eq_getD_getElem?, this]; rfl
                change Leaves Tryz.prog _ _ _ x.defers _ W
                rw [hd.1]
                refine leaves_cons (f := 38) (args := #[.pointer (some ⟨w.heap.size + 1, 0, none⟩), .func (.func 39) #[] #[.pointer (some ⟨w.heap.size, 0, none⟩)]]) (by simp) (by simp [go_sem]) ?_
                refine (caught_panicking ⟨w.heap.size + 1, 0, none⟩ ⟨w.heap.size, 0, none⟩ 200 _ _ _ h7.be.cell h7.be.free (h7.bo.only ((Only.refl (· = w.heap.size + 1) _).setCell _ _ rfl) (by omega)).cell (h7.bo.only ((Only.refl (· = w.heap.size + 1) _).setCell _ _ rfl) (by omega)).free).mono ?_
                rintro e u' w'' ⟨rfl, rfl, rfl⟩
                refine ⟨_, results_two (p := 2) (r := 3) rfl _ _ w.heap.size (w.heap.size + 1) _ _ hd2 (load_row _ _ _ _ h8.bo) hd3 (load_err _ _ _ _ h8.be), ⟨.slice none 0 0, ?_, ?_⟩, h8.hb⟩
                · rw [hfin.out.1]
                · rw [hfin.out.2]; exact OwnU.nil _ _
              · obtain ⟨y, r2, us, rfl, hus⟩ : ∃ y r2 us, r = y :: r2 ∧ bytesO y (szN op) = some us := Classical.byContradiction fun hno => hpan fun y r2 e => by
                  cases hb : bytesO y (szN op) with
                  | none => rfl
                  | some us => exact absurd ⟨y, r2, us, e, hb⟩ hno
                rw [List.length_cons] at hwl hbl
                obtain ⟨hun, hul⟩ := bytesO_un hus
                have hrl := Lib.hid (((pw_two hpw.out hop hz).2 us hun).2 hul)
                replace hul : us.length ≤ 32 := by omega
                obtain ⟨bs1, hbs1⟩ : ∃ b, b = bs ++ [op] := ⟨_, rfl⟩
                have hbl1 : bs1.length ≤ bs.length + 1 := by rw [hbs1]; simp
                rw [← hbs1] at hL11 hrl how12 hbo12
                replace hbs1 := Lib.hid hbs1
                have hbW : Hid (bk < W12.heap.size) := Lib.hid (by obtain ⟨_, _, hq, -⟩ := hL11.out.wds; exact hq.lt)
                have hbs : Hid (∀ W, WordsAt W bk 84 (y :: r2) → Calls Tryz.prog 42 #[.pointer (some ⟨bk, 0, none⟩), .int .i64 (szN op)] W fun e w' => (∃ v, e = .returned v ∧ OwnU W w' v us) ∧ WordsAt w' bk 84 r2 ∧ Only (· = bk) W w') := Lib.hid fun W hW =>
                  bytes_some bk _ y r2 _ us W hW (by have := hww.out y (by simp); omega) (by omega) hus
                refine' wp_region_growSL (goesK (· = bk) (fun b W => WordsAt W bk 84 (cond b r2 (y :: r2))) (fun _ _ => False) 3 (fun _ _ _ h hb => h.below hb)) 4 [fixdS _, fixdS _, fixdS _, ownT hbW.out us] (by kernel_rfl) (by kernel_rfl) hL11.out.wds (fun x ch W hd h => h.elim) ?_
                rotate_left 3
                simp only [List.take_succ_cons, List.take_zero, List.drop_succ_cons, List.drop_zero]
                try simp only [Act.put, List.setIfInBounds_toArray, List.set_cons_succ, List.set_cons_zero, List.nil_append, List.cons_append]
                refine' wpGrowS_fix _ rfl rfl rfl (fun b W hS hb _ => by have c := (hbo12.only hb (by omega)).cell; go_simp; first | exact xrefl W | exact ⟨rfl, xrefl W⟩) ?_
                try simp only [Act.put, List.setIfInBounds_toArray, List.set_cons_succ, List.set_cons_zero, List.nil_append, List.cons_append]
                refine' wpGrowS_fix _ rfl rfl rfl (fun b W hS hb _ => by go_simp; first | exact xrefl W | exact ⟨rfl, xrefl W⟩) ?_
                try simp only [Act.put, List.setIfInBounds_toArray, List.set_cons_succ, List.set_cons_zero, List.nil_append, List.cons_append]
                refine' wpGrowS_fix _ rfl rfl rfl (fun b W hS hb _ => by go_simp; first | exact xrefl W | exact ⟨rfl, xrefl W⟩) ?_
                try simp only [Act.put, List.setIfInBounds_toArray, List.set_cons_succ, List.set_cons_zero, List.nil_append, List.cons_append]
                refine wpGrowS_any (ownT hbW.out us) rfl rfl (fun b W hk0 hS hb _ => ?_) (fun v hv => ?_)
                · obtain rfl := hk0 rfl
                  go_simp
                  go_at_call 42
                  refine (hbs.out W hS).mono ?_
                  rintro e w' ⟨⟨v, rfl, hv⟩, hW', ho'⟩
                  have hv' := own_lo hv (Only.size hb)
                  exact .inl ⟨_, rfl, ⟨hv.is, hv'⟩, ho', hW'⟩
                obtain ⟨a7, c7, rfl⟩ := hv
                try simp only [Act.put, List.setIfInBounds_toArray, List.set_cons_succ, List.set_cons_zero, List.nil_append, List.cons_append]
                refine wpGrowS_nil fun W5 hb5 hS5 hmem => ?_
                have hown7 : OwnU W12 W5 (.slice a7 us.length c7) us := hmem 3 (by decide)
                have hb5 : Only (· = bk) W12 W5 := hb5
                have hS5 : WordsAt W5 bk 84 r2 := hS5
                obtain ⟨a8, c8, e8, hr8, hn8⟩ := hown7.at
                cases e8
                have how5 := own_same how12 (w' := W5) fun g hg hl => hb5.same g hl fun e => by have := (own_lt how12 hg).1; omega
                have hbo5 := hbo12.only hb5 (by omega)
                have hne5 := own_ne how5 hbo5 (by decide)
                have hbk5 : bk + 1 ≤ W5.heap.size := (by have h1 := hbW.out; have h2 := hb5.size; omega)
                have hl5 : bs1.length + us.length ≤ 2700000 := (by omega)
                have hLn : Hid (∀ v11 W11, W5.grownBy W11 (Value.slice a12 bs1.length d12).ownBlock → W11.ownsRow (bk + 1) 5 1 v11 (bs1.length + us.length) ((natI bs1).map (Value.int .u8) ++ (natI us).map (Value.int .u8)) → LpS w bk KN r2 (bs1 ++ us) (W11.setCell ⟨w.heap.size, 0, none⟩ v11)) := Lib.hid fun v11 W11 hg11 o11 => LpS.next hL11.out hbk hbo12 how12 hb5 hS5 (xrefl W5) hg11 o11
                replace hbo5 := Lib.hid hbo5
                replace how5 := Lib.hid how5
                replace hr8 := Lib.hid hr8
                clear hmem hS5 hb5 hbs hown7 hL11 hbo12 how12 hpw htk hsz2 hlk
                go_wp2_with (at_builtin; refine wpList_append_row W5 rfl _ _ 32 rfl (bk + 1) 5 i0 (.int .u8 0) 1 Tryz.underlying32 hi0 hz0 hz1 hz2 rfl _ bs1.length _ rfl how5.out a7 c7 .u8 (natI us) (by rw [natI_len]; rfl) hn8 hr8.out (by rw [natI_len]; unfold maxLen; omega) (by rw [natI_len]; omega) hbk5 ?_; intro v11 W11 o11 hg11; rw [natI_len] at o11; have hL12 := Lib.hid (hLn.out v11 W11 hg11 o11); have h11 := hbo5.out.only (only_grown hg11) hne5; have c11 := h11.cell; have f11 := h11.free; obtain ⟨a11, d11, rfl⟩ := own_slice o11; clear hg11 o11 h11)
                refine ⟨⟨r2, bs1 ++ us, hL12, hrl, by omega, (by rw [List.length_append]; omega), Lib.hid fun z hz => hww.out z (by simp [hz])⟩, ?_⟩
                rw [hL12.out.wds.left, hleft]
                simp only [List.length_cons]
                omega
    · have hrun' : ∀ ty, (Instr.next (.pointer (some ⟨it, 0, none⟩)) false ty).run Tryz.prog wr = _ := fun ty => hrun
      have hT2 : W2.heap[w.heap.size + 1 + 1 + 1]? = some (mapI .u8 (tabL K)) := (hon.same _ (Array.getElem?_eq_some_iff.1 hT.out).1 (by omega)).trans hT.out
      have hN2 : W2.heap[w.heap.size + 1 + 1]? = some (mapG (nmL (seenK' K seen))) := (hon.same _ (Array.getElem?_eq_some_iff.1 hN.out).1 (by omega)).trans hN.out
      have hP2 := hP.out.only hon (by rintro k rfl; omega)
      have hen := entry_mapI (P := Tryz.prog) hj hi2 hT2
      have hjK : j < K.length := by rw [tabL_len] at hj; exact hj
      have hx : (tabL K)[j] = ((K[j] : Int), infoV (infoN K[j])) := by simp [tabL]
      rw [hx] at hen hrun'
      have hcK : K[j] ∈ K := List.getElem_mem hjK
      have hcn := (hK.out.2 K[j]).1 hcK
      have hnot : K[j] ∉ seenK' K seen := fun h => by
        unfold seenK' at h
        obtain ⟨i, hi9, e⟩ := List.mem_map.1 h
        have hiK : i < K.length := by have := hsn.out.2 i hi9; rwa [tabL_len] at this
        rw [getD_lt _ hiK] at e
        have := (List.getElem_inj (h₀ := hiK) (h₁ := hjK) hK.out.1).1 e
        exact hns (this ▸ hi9)
      have hall : ∀ d ∈ seenK' K seen, d < 256 ∧ namedN d = true := fun d hd => by
        unfold seenK' at hd
        obtain ⟨i, hi9, rfl⟩ := List.mem_map.1 hd
        have hiK : i < K.length := by have := hsn.out.2 i hi9; rwa [tabL_len] at this
        rw [getD_lt _ hiK]
        exact (hK.out.2 _).1 (List.getElem_mem hiK)
      have hfn := nm_new hall hcn.1 hcn.2 hnot 0
      have hsk : seenK' K (seen ++ [j]) = seenK' K seen ++ [K[j]] := by unfold seenK'; rw [List.map_append, List.map_singleton, getD_lt _ hjK]
      have happ := nmL_app (seenK' K seen) K[j]
      rw [← hsk] at happ
      have hsn2 : Hid ((seen ++ [j]).Nodup ∧ ∀ i ∈ seen ++ [j], i < (tabL K).length) := Lib.hid ⟨by rw [List.nodup_append]; exact ⟨hsn.out.1, by simp, fun a ha b hb e => hns (by simp at hb; subst hb; rw [← e]; exact ha)⟩, fun i hi => by
        rcases List.mem_append.1 hi with h | h
        · exact hsn.out.2 i h
        · simp at h; omega⟩
      have hmeas := seen_lt hsn.out.1 hsn.out.2 hj hns
      have hsa := seenAt_eq hi.out
      generalize K[j] = c at *
      unfold infoV at hen hrun'
      generalize (infoN c) = X at *
      obtain ⟨nm, iN, oN, gN, qN, zN⟩ := X
      simp only at hen hrun' hfn happ
      have hbx : Below W2.heap.size W2 (W2.alloc (.cells #[.string ⟨nm.toArray⟩, .int .i64 iN, .int .i64 oN, .int .u64 gN, .bool qN, .int .i64 zN] 25)) := xalloc (xrefl _) _
      have hN4 : (W2.alloc (.cells #[.string ⟨nm.toArray⟩, .int .i64 iN, .int .i64 oN, .int .u64 gN, .bool qN, .int .i64 zN] 25)).heap[w.heap.size + 1 + 1]? = some (mapG (nmL (seenK' K seen))) := (hbx.block _ (Array.getElem?_eq_some_iff.1 hN2).1).trans hN2
      have hput := run_putS (P := Tryz.prog) Tryz.underlying78 Tryz.underlying9 ⟨nm.toArray⟩ (.int .u8 c) (W2.alloc (.cells #[.string ⟨nm.toArray⟩, .int .i64 iN, .int .i64 oN, .int .u64 gN, .bool qN, .int .i64 zN] 25)) (w.heap.size + 1 + 1) (nmL (seenK' K seen)) hN4 hfn
      rw [← happ] at hput
      have ho5 : Only (· = w.heap.size + 1 + 1) (W2.alloc (.cells #[.string ⟨nm.toArray⟩, .int .i64 iN, .int .i64 oN, .int .u64 gN, .bool qN, .int .i64 zN] 25)) ((W2.alloc (.cells #[.string ⟨nm.toArray⟩, .int .i64 iN, .int .i64 oN, .int .u64 gN, .bool qN, .int .i64 zN] 25)).putObj (w.heap.size + 1 + 1) (mapG (nmL (seenK' K (seen ++ [j]))))) := (Only.refl _ _).putObj _ _ rfl
      have hP5 := Lib.hid ((hP2.below hbx).only ho5 (by rintro k rfl; omega))
      have hi5 := Lib.hid ((ho5.same it (by have := (Array.getElem?_eq_some_iff.1 hi2).1; have := hbx.size; omega) (by omega)).trans ((hbx.block it (Array.getElem?_eq_some_iff.1 hi2).1).trans hi2))
      have hT5 := Lib.hid ((ho5.same (w.heap.size + 1 + 1 + 1) (by have := (Array.getElem?_eq_some_iff.1 hT2).1; have := hbx.size; omega) (by omega)).trans ((hbx.block _ (Array.getElem?_eq_some_iff.1 hT2).1).trans hT2))
      have hN5 : Hid (((W2.alloc (.cells #[.string ⟨nm.toArray⟩, .int .i64 iN, .int .i64 oN, .int .u64 gN, .bool qN, .int .i64 zN] 25)).putObj (w.heap.size + 1 + 1) (mapG (nmL (seenK' K (seen ++ [j]))))).heap[w.heap.size + 1 + 1]? = some (mapG (nmL (seenK' K (seen ++ [j]))))) := Lib.hid (by
        have := (Array.getElem?_eq_some_iff.1 hN4).1
        have := (Array.getElem?_eq_some_iff.1 hN2).1
        simp [World.putObj, Array.getElem?_setIfInBounds]
        omega)
      have hsa5 := seenAt_eq hi5.out
      clear hN4 hbx ho5 hP2 hi2 hT2 hN2 hfn happ hsk hnot hall hcK hrun hx hsn hi hT hN hP
      go_wp2
      refine ⟨⟨seen ++ [j], hsn2, hi5, hT5, hN5, hP5⟩, ?_⟩
      rw [hsa5, hsa, List.length_append]
      simp
      omega
end Go.Proofs.YtbicfaiabpcgfaaGreatDoor
