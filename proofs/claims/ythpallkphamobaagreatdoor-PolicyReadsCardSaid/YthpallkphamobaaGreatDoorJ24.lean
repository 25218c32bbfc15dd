/- Texts of this claim, merged; no condition. -/
import Derived.Test.YthpallkphamobaaGreatDoorJ16
import Derived.Test.YthpallkphamobaaGreatDoorJ00
import Derived.Test.YthpallkphamobaaGreatDoorJ01
import Derived.Test.YthpallkphamobaaGreatDoorJ14
set_option linter.all false
namespace Go.Proofs.YthpallkphamobaaGreatDoor
open Go.RowKit Go.Shelf

theorem adrC_app (bs : List Nat) (k : Nat) (hb : bs.length = k) (hk : k < 20) (z : Nat) : (adrC (bs ++ List.replicate (20 - k) 0)).set k (.int .u8 z) = adrC ((bs ++ [z]) ++ List.replicate (20 - (k + 1)) 0) := by
  have h2 : 20 - k = (20 - (k + 1)) + 1 := by omega
  rw [h2, List.replicate_succ]
  unfold adrC natI
  subst hb
  simp
theorem adrC_at (bs : List Nat) (k : Nat) (hb : bs.length = k) (hk : k < 20) : (adrC (bs ++ List.replicate (20 - k) 0))[k]? = some (.int .u8 0) := by
  unfold adrC natI
  subst hb
  rw [List.getElem?_map, List.getElem?_map, List.getElem?_append_right (by omega), Nat.sub_self, List.getElem?_replicate, if_pos (by omega)]
  rfl
set_option maxRecDepth 100000 in
set_option maxHeartbeats 8000000 in
theorem refAddress_any (x : List UInt8) (w : World) (hx : x.length ≤ 4194304) :
    Calls Tryz.prog 19 #[.string ⟨x.toArray⟩] w fun e w' => e = .returned (.tuple #[.agg (adrC ((addrF x).getD zAdr)).toArray, .bool (addrF x).isSome]) ∧ Below w.heap.size w w' := by
  have hB : BlkG ((w.alloc (.cells zAdrC.toArray 29)).alloc (.cells zAdrC.toArray 29)) (w.heap.size + 1) 29 zAdrC := by
    have := BlkG.new (w.alloc (.cells zAdrC.toArray 29)) 29 zAdrC
    rwa [World.size_alloc] at this
  have hA : BlkG ((w.alloc (.cells zAdrC.toArray 29)).alloc (.cells zAdrC.toArray 29)) w.heap.size 29 zAdrC := (BlkG.new w _ _).alloc _
  have hb0 : Below w.heap.size w ((w.alloc (.cells zAdrC.toArray 29)).alloc (.cells zAdrC.toArray 29)) := xalloc (xalloc (xrefl w) _) _
  have hzl : zAdrC.length = 20 := rfl
  have hzo : zAdrC.all (·.oneCell') = true := by decide
  have hsz : (⟨x.toArray⟩ : ByteArray).size = x.length := by show x.toArray.size = _; simp
  replace hB := Lib.hid hB
  replace hA := Lib.hid hA
  replace hb0 := Lib.hid hb0
  have hfail : addrF x = none → Ending.returned (.tuple #[.agg zAdrC.toArray, .bool false]) = .returned (.tuple #[.agg (adrC ((addrF x).getD zAdr)).toArray, .bool (addrF x).isSome]) := fun h => by rw [h]; rfl
  by_cases h42 : x.length = 42
  · have h42I : (x.length : Int) = 42 := by omega
    have hsl := fun W => run_cut2 x W (by omega)
    by_cases h3 : x.take 2 = [48, 120]
    · have h3b : (x.take 2 == [48, 120]) = true := by rw [h3]; rfl
      obtain ⟨l, hxl⟩ : ∃ l, x = 48 :: 120 :: l := ⟨x.drop 2, by
        have := List.take_append_drop 2 x
        rw [h3] at this
        exact this.symm⟩
      have hl40 : l.length = 40 := by rw [hxl] at h42; simp at h42; omega
      have hF : addrF x = (unhexP l).bind fun z => if z.length = 20 then some z else none := by rw [hxl]; rfl
      have hgetx : ∀ j (h : j < l.length) W, (Instr.index 9 (.string ⟨x.toArray⟩) (.int .i64 (2 + j : Nat))).run Tryz.prog W = .ok (.int .u8 (l[j].toNat : Nat)) W := fun j h W => by
        have h1 : 2 + j < x.length := by omega
        rw [run_at_str x (2 + j) h1 W]
        have h2 : x[2 + j] = l[j] := by
          have : x[2 + j]? = l[j]? := by rw [hxl, Nat.add_comm]; rfl
          rw [List.getElem?_eq_getElem h1, List.getElem?_eq_getElem h] at this
          exact Option.some.inj this
        rw [h2]
      have hst0 : Hid (unhexP l = (unhexP (l.drop 0)).map (([] : List Nat) ++ ·)) := Lib.hid (by rw [List.drop_zero]; cases unhexP l <;> rfl)
      have hdrop := Lib.hid fun k h => drop_two l k h
      have hnone : unhexP l = none → addrF x = none := fun h => by rw [hF, h]; rfl
      have hsome : ∀ bs, unhexP l = some bs → bs.length = 20 → addrF x = some bs := fun bs h h2 => by rw [hF, h, Option.bind_some, if_pos h2]
      replace hnone := Lib.hid fun h => hfail (hnone h)
      replace hsome := Lib.hid hsome
      replace hgetx := Lib.hid hgetx
      have hdg := Lib.hid fun (c : Nat) (hc : c < 256) W => refDigit_any c W hc
      replace hl40 := Lib.hid hl40
      have hB0 : BlkG ((w.alloc (.cells zAdrC.toArray 29)).alloc (.cells zAdrC.toArray 29)) (w.heap.size + 1) 29 (adrC (([] : List Nat) ++ List.replicate (20 - 0) 0)) := hB.out
      have hA0 : BlkG ((w.alloc (.cells zAdrC.toArray 29)).alloc (.cells zAdrC.toArray 29)) w.heap.size 29 zAdrC := hA.out
      replace hA := Lib.hid hA0
      replace hB := Lib.hid hB0
      clear hfail h3 hxl hF hx h42 hA0 hB0
      generalize hzz : adrC (([] : List Nat) ++ List.replicate (20 - 0) 0) = zz at *
      have hlit : zAdrC = [.int .u8 0, .int .u8 0, .int .u8 0, .int .u8 0, .int .u8 0, .int .u8 0, .int .u8 0, .int .u8 0, .int .u8 0, .int .u8 0, .int .u8 0, .int .u8 0, .int .u8 0, .int .u8 0, .int .u8 0, .int .u8 0, .int .u8 0, .int .u8 0, .int .u8 0, .int .u8 0] := rfl
      rw [hlit] at hb0 hA hB
      generalize x.take 2 = l2 at *
      go_enter Tryz.func19, Tryz.ntmps19
      go_upto_region 2 with fail
      generalize (w.alloc (.cells #[.int .u8 0, .int .u8 0, .int .u8 0, .int .u8 0, .int .u8 0, .int .u8 0, .int .u8 0, .int .u8 0, .int .u8 0, .int .u8 0, .int .u8 0, .int .u8 0, .int .u8 0, .int .u8 0, .int .u8 0, .int .u8 0, .int .u8 0, .int .u8 0, .int .u8 0, .int .u8 0] 29)).alloc (.cells #[.int .u8 0, .int .u8 0, .int .u8 0, .int .u8 0, .int .u8 0, .int .u8 0, .int .u8 0, .int .u8 0, .int .u8 0, .int .u8 0, .int .u8 0, .int .u8 0, .int .u8 0, .int .u8 0, .int .u8 0, .int .u8 0, .int .u8 0, .int .u8 0, .int .u8 0, .int .u8 0] 29) = w0 at *

      go_wp2
      replace hzz := Lib.hid hzz
      go_loopw [5] (fun iv wx => ∃ (k : Nat) (bs : List Nat), iv = .int .i64 k ∧ k ≤ 20 ∧ Hid (bs.length = k) ∧ Hid (BlkG wx (w.heap.size + 1) 29 (adrC (bs ++ List.replicate (20 - k) 0))) ∧ Hid (BlkG wx w.heap.size 29 [.int .u8 0, .int .u8 0, .int .u8 0, .int .u8 0, .int .u8 0, .int .u8 0, .int .u8 0, .int .u8 0, .int .u8 0, .int .u8 0, .int .u8 0, .int .u8 0, .int .u8 0, .int .u8 0, .int .u8 0, .int .u8 0, .int .u8 0, .int .u8 0, .int .u8 0, .int .u8 0]) ∧ Hid (unhexP l = (unhexP (l.drop (2 * k))).map (bs ++ ·)) ∧ Hid (Below w.heap.size w wx)) (fun iv _ => 20 - (intOf iv).toNat)
      case atStart => exact ⟨0, [], rfl, by omega, Lib.hid rfl, Lib.hid (by rw [hzz.out]; exact hB.out), hA, hst0, hb0⟩
      case round =>
        clear hst0 hB hA hb0 hzz hlit
        obtain ⟨k, bs, rfl, hk, hbl, hBk, hAk, hst, hb⟩ := hrel
        by_cases hlt : k < 20
        · have hltI : (k : Int) < 20 := by omega
          have hl40' := hl40.out
          have hj0 : 2 * k < l.length := by omega
          have hj1 : 2 * k + 1 < l.length := by omega
          have hcut := hdrop.out (2 * k) hj1
          have hs1 := hst.out
          rw [hcut] at hs1
          obtain ⟨hgo, hno⟩ := unhexP_step hs1
          have hia := fun W => hgetx.out (2 * k) hj0 W
          have hib := fun W => hgetx.out (2 * k + 1) hj1 W
          have hwk : IntKind.i64.wrap (2 * (k : Int)) = ((2 * k : Nat) : Int) := by simp [IntKind.wrap, IntKind.bits, IntKind.signed]; omega
          have hw2 : IntKind.i64.wrap (2 + ((2 * k : Nat) : Int)) = ((2 + 2 * k : Nat) : Int) := by simp [IntKind.wrap, IntKind.bits, IntKind.signed]; omega
          have hw3 : IntKind.i64.wrap (3 + ((2 * k : Nat) : Int)) = ((2 + (2 * k + 1) : Nat) : Int) := by simp [IntKind.wrap, IntKind.bits, IntKind.signed]; omega
          have hdr : Hid (l.drop (2 * k + 2) = l.drop (2 * (k + 1))) := Lib.hid rfl
          rw [hdr.out] at hgo
          have da : ∀ d, digO l[2 * k] = some d → digI l[2 * k].toNat = d := fun d h => digI_some h
          have db : ∀ d, digO l[2 * k + 1] = some d → digI l[2 * k + 1].toNat = d := fun d h => digI_some h
          have na : digO l[2 * k] = none → digI l[2 * k].toNat = -1 := fun h => digI_none h
          have nb : digO l[2 * k + 1] = none → digI l[2 * k + 1].toNat = -1 := fun h => digI_none h
          have la : l[2 * k].toNat < 256 := UInt8.toNat_lt l[2 * k]
          have lb : l[2 * k + 1].toNat < 256 := UInt8.toNat_lt l[2 * k + 1]
          generalize l[2 * k] = ca at *
          generalize l[2 * k + 1] = cb at *
          generalize ca.toNat = xa at *
          generalize cb.toNat = xb at *
          generalize 2 + (2 * k + 1) = j3 at *
          generalize 2 + 2 * k = j2 at *
          replace hgo := Lib.hid hgo
          replace hno := Lib.hid hno
          clear hs1 hcut hj0 hj1 hst hdr
          generalize 2 * k = j at *
          cases hqa : digO ca with
          | none =>
            have ea := na hqa
            have hq := Lib.hid (hnone.out (hno.out (.inl hqa)))
            go_wp2
            go_quiet (first | (go_at_call 49; refine Calls.quiet_of_same (hdg.out _ (by assumption) _)))
            have hA9 : Hid (BlkG (wr.drewN nq) w.heap.size 29 [.int .u8 0, .int .u8 0, .int .u8 0, .int .u8 0, .int .u8 0, .int .u8 0, .int .u8 0, .int .u8 0, .int .u8 0, .int .u8 0, .int .u8 0, .int .u8 0, .int .u8 0, .int .u8 0, .int .u8 0, .int .u8 0, .int .u8 0, .int .u8 0, .int .u8 0, .int .u8 0]) := Lib.hid hAk.out
            have hb9 : Hid (Below w.heap.size w (wr.drewN nq)) := Lib.hid (xtrans hb.out ⟨rfl, rfl, rfl, Nat.le_refl _, fun _ _ => rfl⟩)
            generalize wr.drewN nq = w9 at *
            go_wp2_with (refine wpList_store_blkG rfl 29 _ _ rfl w.heap.size rfl 29 [.int .u8 0, .int .u8 0, .int .u8 0, .int .u8 0, .int .u8 0, .int .u8 0, .int .u8 0, .int .u8 0, .int .u8 0, .int .u8 0, .int .u8 0, .int .u8 0, .int .u8 0, .int .u8 0, .int .u8 0, .int .u8 0, .int .u8 0, .int .u8 0, .int .u8 0, .int .u8 0] [.int .u8 0, .int .u8 0, .int .u8 0, .int .u8 0, .int .u8 0, .int .u8 0, .int .u8 0, .int .u8 0, .int .u8 0, .int .u8 0, .int .u8 0, .int .u8 0, .int .u8 0, .int .u8 0, .int .u8 0, .int .u8 0, .int .u8 0, .int .u8 0, .int .u8 0, .int .u8 0] hA9.out rfl rfl (by kernel_rfl) (by decide) ?_; intro w3 hB3 ho3; have hb3 := Lib.hid (ho3.below hb9.out (Below.size hb9.out) (by rintro q rfl; exact Nat.le_refl _)); replace hB3 := Lib.hid hB3; clear ho3)
            exact bodyPost_ret (results_blkG2 (p := 2) (r := 3) rfl _ _ w.heap.size 29 _ _ rfl hB3.out Tryz.underlying29 rfl (by kernel_rfl)) rfl ⟨hq.out, hb3.out⟩
          | some xd =>
            have ea := da _ hqa
            cases hqb : digO cb with
            | none =>
              have eb := nb hqb
              have hx0 : ¬ (xd : Int) < 0 := by omega
              have hq := Lib.hid (hnone.out (hno.out (.inr hqb)))
              go_wp2
              go_quiet (first | (go_at_call 49; refine Calls.quiet_of_same (hdg.out _ (by assumption) _)))
              have hA9 : Hid (BlkG (wr.drewN nq) w.heap.size 29 [.int .u8 0, .int .u8 0, .int .u8 0, .int .u8 0, .int .u8 0, .int .u8 0, .int .u8 0, .int .u8 0, .int .u8 0, .int .u8 0, .int .u8 0, .int .u8 0, .int .u8 0, .int .u8 0, .int .u8 0, .int .u8 0, .int .u8 0, .int .u8 0, .int .u8 0, .int .u8 0]) := Lib.hid hAk.out
              have hb9 : Hid (Below w.heap.size w (wr.drewN nq)) := Lib.hid (xtrans hb.out ⟨rfl, rfl, rfl, Nat.le_refl _, fun _ _ => rfl⟩)
              generalize wr.drewN nq = w9 at *
              go_wp2_with (refine wpList_store_blkG rfl 29 _ _ rfl w.heap.size rfl 29 [.int .u8 0, .int .u8 0, .int .u8 0, .int .u8 0, .int .u8 0, .int .u8 0, .int .u8 0, .int .u8 0, .int .u8 0, .int .u8 0, .int .u8 0, .int .u8 0, .int .u8 0, .int .u8 0, .int .u8 0, .int .u8 0, .int .u8 0, .int .u8 0, .int .u8 0, .int .u8 0] [.int .u8 0, .int .u8 0, .int .u8 0, .int .u8 0, .int .u8 0, .int .u8 0, .int .u8 0, .int .u8 0, .int .u8 0, .int .u8 0, .int .u8 0, .int .u8 0, .int .u8 0, .int .u8 0, .int .u8 0, .int .u8 0, .int .u8 0, .int .u8 0, .int .u8 0, .int .u8 0] hA9.out rfl rfl (by kernel_rfl) (by decide) ?_; intro w3 hB3 ho3; have hb3 := Lib.hid (ho3.below hb9.out (Below.size hb9.out) (by rintro q rfl; exact Nat.le_refl _)); replace hB3 := Lib.hid hB3; clear ho3)
              exact bodyPost_ret (results_blkG2 (p := 2) (r := 3) rfl _ _ w.heap.size 29 _ _ rfl hB3.out Tryz.underlying29 rfl (by kernel_rfl)) rfl ⟨hq.out, hb3.out⟩
            | some yd =>
              have eb := db _ hqb
              have hx16 := dig_lt hqa
              have hy16 := dig_lt hqb
              have hx0 : ¬ (xd : Int) < 0 := by omega
              have hy0 : ¬ (yd : Int) < 0 := by omega
              obtain ⟨z, hz⟩ : ∃ z : Nat, z = 16 * xd + yd := ⟨_, rfl⟩
              have hzI : 16 * (xd : Int) + (yd : Int) = (z : Int) := by omega
              have hz8 : IntKind.u8.wrap (z : Int) = (z : Int) := by simp [IntKind.wrap, IntKind.bits, IntKind.signed]; omega
              have hs2 := hgo.out xd yd hqa hqb
              rw [← hz] at hs2
              replace hs2 := Lib.hid hs2
              clear hz
              go_wp2
              go_quiet (first | (go_at_call 49; refine Calls.quiet_of_same (hdg.out _ (by assumption) _)))
              have hA9 : Hid (BlkG (wr.drewN nq) w.heap.size 29 [.int .u8 0, .int .u8 0, .int .u8 0, .int .u8 0, .int .u8 0, .int .u8 0, .int .u8 0, .int .u8 0, .int .u8 0, .int .u8 0, .int .u8 0, .int .u8 0, .int .u8 0, .int .u8 0, .int .u8 0, .int .u8 0, .int .u8 0, .int .u8 0, .int .u8 0, .int .u8 0]) := Lib.hid hAk.out
              have hB9 : Hid (BlkG (wr.drewN nq) (w.heap.size + 1) 29 (adrC (bs ++ List.replicate (20 - k) 0))) := Lib.hid hBk.out
              have hb9 : Hid (Below w.heap.size w (wr.drewN nq)) := Lib.hid (xtrans hb.out ⟨rfl, rfl, rfl, Nat.le_refl _, fun _ _ => rfl⟩)
              generalize wr.drewN nq = w9 at *
              have cz := blk_cell hB9.out (adrC_at bs k hbl.out hlt)
              have fz := hB9.out.free k
              go_wp2
              have hB4 := hB9.out.set k (.int .u8 z)
              rw [adrC_app bs k hbl.out hlt z] at hB4
              have ho : Only (· = w.heap.size + 1) w9 (w9.setCell ⟨w.heap.size + 1, k, none⟩ (.int .u8 z)) := (Only.refl _ _).setCell _ _ rfl
              exact ⟨⟨k + 1, bs ++ [z], by first | rfl | simp, by omega, Lib.hid (by rw [List.length_append, hbl.out]; rfl), Lib.hid hB4, Lib.hid (hA9.out.only ho (by omega)), hs2, Lib.hid (ho.below hb9.out hb9.out.size (by rintro q rfl; omega))⟩, by simp [intOf]; omega⟩
        · obtain rfl : k = 20 := by omega
          have hq : unhexP l = some bs := by
            rw [hst.out, List.drop_of_length_le (by rw [hl40.out]; exact Nat.le_refl _), unhexP]; simp
          have hfin := Lib.hid (hsome.out bs hq hbl.out)
          have hbl2 := hbl.out
          have happ : bs ++ List.replicate (20 - 20) 0 = bs := by simp
          rw [happ] at hBk
          have hA20 : (adrC bs).length = 20 := by rw [adrC_len, hbl2]
          have hone : (adrC bs).all (·.oneCell') = true := by simp [adrC, Value.oneCell']
          clear hq hst hbl2 happ hlt
          go_wp2_with (first
            | (refine wpList_load_mid rfl 29 _ rfl (w.heap.size + 1) 0 rfl (adrC bs) _ (BlkG.range hBk.out) Tryz.underlying29 rfl (by rw [hA20]; kernel_rfl) ?_)
            | (refine wpList_store_blkG rfl 29 _ _ rfl w.heap.size rfl 29 [.int .u8 0, .int .u8 0, .int .u8 0, .int .u8 0, .int .u8 0, .int .u8 0, .int .u8 0, .int .u8 0, .int .u8 0, .int .u8 0, .int .u8 0, .int .u8 0, .int .u8 0, .int .u8 0, .int .u8 0, .int .u8 0, .int .u8 0, .int .u8 0, .int .u8 0, .int .u8 0] (adrC bs) hAk.out rfl (by rw [hA20]; rfl) (by rw [hA20]; kernel_rfl) hone ?_; intro w3 hB3 ho3; have hb3 := Lib.hid (ho3.below hb.out (Below.size hb.out) (by rintro q rfl; exact Nat.le_refl _)); replace hB3 := Lib.hid hB3; clear ho3))
          exact bodyPost_ret (results_blkG2 (p := 2) (r := 3) rfl _ _ w.heap.size 29 _ _ rfl hB3.out Tryz.underlying29 rfl (by rw [hA20]; kernel_rfl)) rfl ⟨by rw [hfin.out]; rfl, hb3.out⟩
    · have hn : addrF x = none := by
        cases h : addrF x with
        | none => rfl
        | some a =>
          obtain ⟨h1, h2, _⟩ := addr_some h
          rw [← h1] at h3
          exact absurd rfl h3
      replace hfail := Lib.hid (hfail hn)
      have h3b : (x.take 2 == [48, 120]) = false := by simpa using h3
      clear hn h42 hx h3
      generalize x.take 2 = l2 at *
      rw [← hfail.out]
      clear hfail
      unfold zAdrC at hA hB hb0 ⊢
      go_enter Tryz.func19, Tryz.ntmps19
      go_upto_region 2 with fail
      generalize (w.alloc (.cells #[.int .u8 0, .int .u8 0, .int .u8 0, .int .u8 0, .int .u8 0, .int .u8 0, .int .u8 0, .int .u8 0, .int .u8 0, .int .u8 0, .int .u8 0, .int .u8 0, .int .u8 0, .int .u8 0, .int .u8 0, .int .u8 0, .int .u8 0, .int .u8 0, .int .u8 0, .int .u8 0] 29)).alloc (.cells #[.int .u8 0, .int .u8 0, .int .u8 0, .int .u8 0, .int .u8 0, .int .u8 0, .int .u8 0, .int .u8 0, .int .u8 0, .int .u8 0, .int .u8 0, .int .u8 0, .int .u8 0, .int .u8 0, .int .u8 0, .int .u8 0, .int .u8 0, .int .u8 0, .int .u8 0, .int .u8 0] 29) = w0 at *

      go_wp2_with (first
        | (refine wpList_load_mid rfl 29 _ rfl (w.heap.size + 1) 0 rfl [.int .u8 0, .int .u8 0, .int .u8 0, .int .u8 0, .int .u8 0, .int .u8 0, .int .u8 0, .int .u8 0, .int .u8 0, .int .u8 0, .int .u8 0, .int .u8 0, .int .u8 0, .int .u8 0, .int .u8 0, .int .u8 0, .int .u8 0, .int .u8 0, .int .u8 0, .int .u8 0] _ (BlkG.range hB.out) Tryz.underlying29 rfl (by kernel_rfl) ?_)
        | (refine wpList_store_blkG rfl 29 _ _ rfl w.heap.size rfl 29 [.int .u8 0, .int .u8 0, .int .u8 0, .int .u8 0, .int .u8 0, .int .u8 0, .int .u8 0, .int .u8 0, .int .u8 0, .int .u8 0, .int .u8 0, .int .u8 0, .int .u8 0, .int .u8 0, .int .u8 0, .int .u8 0, .int .u8 0, .int .u8 0, .int .u8 0, .int .u8 0] [.int .u8 0, .int .u8 0, .int .u8 0, .int .u8 0, .int .u8 0, .int .u8 0, .int .u8 0, .int .u8 0, .int .u8 0, .int .u8 0, .int .u8 0, .int .u8 0, .int .u8 0, .int .u8 0, .int .u8 0, .int .u8 0, .int .u8 0, .int .u8 0, .int .u8 0, .int .u8 0] hA.out rfl rfl (by kernel_rfl) hzo ?_; intro w3 hB3 ho3; have hb3 := Lib.hid (ho3.below hb0.out (Below.size hb0.out) (by rintro q rfl; exact Nat.le_refl _)); replace hB3 := Lib.hid hB3; clear ho3))
      exact bodyPost_ret (results_blkG2 (p := 2) (r := 3) rfl _ _ w.heap.size 29 _ _ rfl hB3.out Tryz.underlying29 rfl (by kernel_rfl)) rfl ⟨rfl, hb3.out⟩
  · have hn : addrF x = none := by
      cases h : addrF x with
      | none => rfl
      | some a =>
        obtain ⟨h1, h2, h3⟩ := addr_some h
        rw [← h1, hexN_len, h3] at h42
        exact absurd rfl h42
    replace hfail := Lib.hid (hfail hn)
    have h42I : ¬ (x.length : Int) = 42 := by omega
    clear hn h42 hx
    rw [← hfail.out]
    clear hfail
    unfold zAdrC at hA hB hb0 ⊢
    go_enter Tryz.func19, Tryz.ntmps19
    go_upto_region 2 with fail
    generalize (w.alloc (.cells #[.int .u8 0, .int .u8 0, .int .u8 0, .int .u8 0, .int .u8 0, .int .u8 0, .int .u8 0, .int .u8 0, .int .u8 0, .int .u8 0, .int .u8 0, .int .u8 0, .int .u8 0, .int .u8 0, .int .u8 0, .int .u8 0, .int .u8 0, .int .u8 0, .int .u8 0, .int .u8 0] 29)).alloc (.cells #[.int .u8 0, .int .u8 0, .int .u8 0, .int .u8 0, .int .u8 0, .int .u8 0, .int .u8 0, .int .u8 0, .int .u8 0, .int .u8 0, .int .u8 0, .int .u8 0, .int .u8 0, .int .u8 0, .int .u8 0, .int .u8 0, .int .u8 0, .int .u8 0, .int .u8 0, .int .u8 0] 29) = w0 at *

    go_wp2_with (first
        | (refine wpList_load_mid rfl 29 _ rfl (w.heap.size + 1) 0 rfl [.int .u8 0, .int .u8 0, .int .u8 0, .int .u8 0, .int .u8 0, .int .u8 0, .int .u8 0, .int .u8 0, .int .u8 0, .int .u8 0, .int .u8 0, .int .u8 0, .int .u8 0, .int .u8 0, .int .u8 0, .int .u8 0, .int .u8 0, .int .u8 0, .int .u8 0, .int .u8 0] _ (BlkG.range hB.out) Tryz.underlying29 rfl (by kernel_rfl) ?_)
        | (refine wpList_store_blkG rfl 29 _ _ rfl w.heap.size rfl 29 [.int .u8 0, .int .u8 0, .int .u8 0, .int .u8 0, .int .u8 0, .int .u8 0, .int .u8 0, .int .u8 0, .int .u8 0, .int .u8 0, .int .u8 0, .int .u8 0, .int .u8 0, .int .u8 0, .int .u8 0, .int .u8 0, .int .u8 0, .int .u8 0, .int .u8 0, .int .u8 0] [.int .u8 0, .int .u8 0, .int .u8 0, .int .u8 0, .int .u8 0, .int .u8 0, .int .u8 0, .int .u8 0, .int .u8 0, .int .u8 0, .int .u8 0, .int .u8 0, .int .u8 0, .int .u8 0, .int .u8 0, .int .u8 0, .int .u8 0, .int .u8 0, .int .u8 0, .int .u8 0] hA.out rfl rfl (by kernel_rfl) hzo ?_; intro w3 hB3 ho3; have hb3 := Lib.hid (ho3.below hb0.out (Below.size hb0.out) (by rintro q rfl; exact Nat.le_refl _)); replace hB3 := Lib.hid hB3; clear ho3))
    exact bodyPost_ret (results_blkG2 (p := 2) (r := 3) rfl _ _ w.heap.size 29 _ _ rfl hB3.out Tryz.underlying29 rfl (by kernel_rfl)) rfl ⟨rfl, hb3.out⟩
end Go.Proofs.YthpallkphamobaaGreatDoor
namespace Go.Proofs.YthpallkphamobaaGreatDoor
open Go.RowKit Go.Shelf

/-- The address of a word: its last 20 bytes. -/
def ofN (N : Nat) : List Nat := (List.range 20).map fun j => byteAt N (19 - j)
theorem ofN_len (N : Nat) : (ofN N).length = 20 := by simp [ofN]
theorem ofN_get (N k : Nat) (h : k < 20) : (ofN N)[k]'(by rw [ofN_len]; exact h) = byteAt N (19 - k) := by simp [ofN]
end Go.Proofs.YthpallkphamobaaGreatDoor
namespace Go.Proofs.YthpallkphamobaaGreatDoor
open Go.RowKit Go.Shelf

/-- A word's bytes, the highest first. -/
def wbL (N : Nat) : List Nat := (List.range 32).map fun j => byteAt N (31 - j)
theorem wbL_len (N : Nat) : (wbL N).length = 32 := by simp [wbL]
theorem wbL_get (N k : Nat) (h : k < 32) : (wbL N)[k]'(by rw [wbL_len]; exact h) = byteAt N (31 - k) := by simp [wbL]
theorem wb_of (N k : Nat) (h : k < 20) : ((natI (wbL N)).map (Value.int .u8))[12 + k]? = (adrC (ofN N))[k]? := by
  unfold adrC
  rw [List.getElem?_map, List.getElem?_map]
  unfold natI
  rw [List.getElem?_map, List.getElem?_map, List.getElem?_eq_getElem (by rw [wbL_len]; omega), List.getElem?_eq_getElem (by rw [ofN_len]; exact h), wbL_get N (12 + k) (by omega), ofN_get N k h, show 31 - (12 + k) = 19 - k by omega]
theorem info_u8 : (Tryz.prog.info? 5).map (fun i => (i.zero, i.size, i.bytes)) = some (some (Value.int .u8 0), 1, 1) := by kernel_rfl
theorem own_sliceB {w : World} {base : Nat} {e : TypeId} {size : Nat} {v : Value} {n : Nat} {xs : List Value} (h : w.ownsRow base e size v n xs) : ∃ a c, v = .slice a n c := by
  rcases h.2 with ⟨rfl, rfl⟩ | ⟨g, cap, cur, rfl, _⟩
  · exact ⟨_, _, rfl⟩
  · exact ⟨_, _, rfl⟩
theorem own_belowB {w w' : World} {base : Nat} {e : TypeId} {size : Nat} {v : Value} {n : Nat} {xs : List Value} (h : w.ownsRow base e size v n xs) (hb : Below w.heap.size w w') : w'.ownsRow base e size v n xs := by
  refine ⟨h.1, ?_⟩
  rcases h.2 with h0 | ⟨g, cap, cur, e1, hg, hh, r⟩
  · exact .inl h0
  · exact .inr ⟨g, cap, cur, e1, hg, (hb.block g (Array.getElem?_eq_some_iff.1 hh).1).trans hh, r⟩
theorem run_mk_cap {P : Program} (t e : TypeId) (i : TypeInfo) (q : IntKind) (bytes : Nat) (ht : P.underlying t = some (.slice e)) (hi : P.info? e = some i) (hz : i.zero = some (.int q 0)) (hsize : i.size = 1) (hby : i.bytes = bytes)
    (n : Nat) (hb : bytes * n ≤ 281474976710656) (h63 : n ≤ 9223372036854775807) (W : World) :
    (Instr.makeSlice t (.int .i64 0) (.int .i64 n)).run P W = .ok (.slice (some ⟨W.heap.size, 0, none⟩) 0 n) (W.alloc (.cells (List.replicate n (Value.int q 0)).toArray e)) := by
  subst hby
  have hb' : (i.bytes : Int) * (n : Int) ≤ 281474976710656 := by
    have h : ((i.bytes * n : Nat) : Int) ≤ 281474976710656 := by omega
    rwa [Int.natCast_mul] at h
  rw [run_make (P := P) W t e i _ ht hi hz .i64 .i64 0 n (by omega) (by omega) hb' (by omega)]
  simp only [Int.toNat_natCast, hsize, Nat.mul_one, Int.toNat_zero]
  have e1 : madeCells (Value.int q 0).cells n = (List.replicate n (Value.int q 0)).toArray := by
    apply Array.ext
    · simp [madeCells]
    · intro j h1 h2
      simp [madeCells, Value.cells, Nat.mod_one]
  rw [e1]
set_option maxRecDepth 100000 in
set_option maxHeartbeats 8000000 in
theorem bytesW_any (N : Nat) (w : World) :
    Calls Tryz.prog 56 #[wordV N] w fun e w' => (∃ v, e = .returned v ∧ w'.ownsRow (w.heap.size + 1) 5 1 v 32 ((natI (wbL N)).map (Value.int .u8))) ∧ Below w.heap.size w w' := by
  obtain ⟨i0, hi0, hz0, hz1, hz2⟩ := info_parts info_u8
  obtain ⟨zl, hzl⟩ : ∃ zl, zl = (List.replicate 32 (Value.int .u8 0)).toArray := ⟨_, rfl⟩
  have hmk : ∀ W, (Instr.makeSlice 93 (.int .i64 0) (.int .i64 32)).run Tryz.prog W = .ok (.slice (some ⟨W.heap.size, 0, none⟩) 0 32) (W.alloc (.cells zl 5)) := fun W => hzl ▸ run_mk_cap 93 5 i0 .u8 1 Tryz.underlying93 hi0 hz0 hz1 hz2 32 (by omega) (by omega) W
  have hA : Hid (BlkG ((w.alloc (.cells #[.int .u64 (limb N 0), .int .u64 (limb N 1), .int .u64 (limb N 2), .int .u64 (limb N 3)] 43)).alloc (.cells zl 5)) w.heap.size 43 ((wordL N).map (Value.int .u64))) := Lib.hid ((BlkG.new w _ _).alloc _)
  have hb0 : Hid (Below w.heap.size w ((w.alloc (.cells #[.int .u64 (limb N 0), .int .u64 (limb N 1), .int .u64 (limb N 2), .int .u64 (limb N 3)] 43)).alloc (.cells zl 5))) := Lib.hid (xalloc (xalloc (xrefl w) _) _)
  have ho0 : Hid (World.ownsRow ((w.alloc (.cells #[.int .u64 (limb N 0), .int .u64 (limb N 1), .int .u64 (limb N 2), .int .u64 (limb N 3)] 43)).alloc (.cells zl 5)) (w.heap.size + 1) 5 1 (.slice (some ⟨w.heap.size + 1, 0, none⟩) 0 32) ((wbL N).take 0).length ((natI ((wbL N).take 0)).map (Value.int .u8))) := Lib.hid (by
    have := World.ownsRow_made (base := w.heap.size + 1) (e := 5) (size := 1) (w.alloc (.cells #[.int .u64 (limb N 0), .int .u64 (limb N 1), .int .u64 (limb N 2), .int .u64 (limb N 3)] 43)) zl 32 (by rw [World.size_alloc]; exact Nat.le_refl _) (by unfold maxLen; omega) (by rw [hzl]; simp)
    rw [World.size_alloc] at this
    exact this)
  clear hzl
  unfold wordV
  go_enter Tryz.func56, Tryz.ntmps56
  go_upto_region 2 with fail
  clear hmk
  generalize (w.alloc (.cells #[.int .u64 (limb N 0), .int .u64 (limb N 1), .int .u64 (limb N 2), .int .u64 (limb N 3)] 43)).alloc (.cells zl 5) = w2 at *
  go_wp2
  go_loopw [3, 4] (fun v iv wx => ∃ n : Nat, n ≤ 32 ∧ iv = .int .i64 ((n : Int) - 1) ∧ Hid (BlkG wx w.heap.size 43 ((wordL N).map (Value.int .u64))) ∧ Hid (wx.ownsRow (w.heap.size + 1) 5 1 v ((wbL N).take (32 - n)).length ((natI ((wbL N).take (32 - n))).map (Value.int .u8))) ∧ Hid (Below w.heap.size w wx)) (fun _ iv _ => (intOf iv + 1).toNat)
  case atStart => exact ⟨32, by omega, rfl, hA, ho0, hb0⟩
  case round =>
    clear hA ho0 hb0
    obtain ⟨n, hn, rfl, hA, hown, hb⟩ := hrel
    cases n with
    | zero =>
      go_wp2
      go_ret
      exact ⟨⟨_, rfl, by have := hown.out; rw [List.take_of_length_le (by rw [wbL_len]; omega), wbL_len] at this; exact this⟩, hb.out⟩
    | succ k =>
      rw [show ((k + 1 : Nat) : Int) - 1 = (k : Int) by omega]
      rw [show 32 - (k + 1) = 31 - k by omega] at hown
      have hc1 := blk_cell hA.out (i := k / 8) (v := .int .u64 (limb N (k / 8) : Nat)) (by rw [List.getElem?_map, List.getElem?_eq_getElem (by show k / 8 < 4; omega), wordL_get]; rfl)
      have hx := limb_lt N (k / 8)
      have hy := limb_byte N k
      generalize limb N (k / 8) = x at hc1 hx hy
      have hZ : ((x : Int) / 2 ^ (8 * (k % 8)) % 256) = (byteAt N k : Int) := by rw [← hy]; push_cast; rfl
      have hnx : Hid ((wbL N).take (32 - k) = (wbL N).take (31 - k) ++ [byteAt N k]) := Lib.hid (by
        rw [show 32 - k = (31 - k) + 1 by omega, List.take_succ_eq_append_getElem (by rw [wbL_len]; omega), wbL_get N (31 - k) (by omega), show 31 - (31 - k) = k by omega])
      have htl : ((wbL N).take (31 - k)).length = 31 - k := by rw [List.length_take, wbL_len]; omega
      replace hZ := Lib.hid hZ
      rw [htl] at hown
      obtain ⟨m, hm⟩ : ∃ m, m = 31 - k := ⟨_, rfl⟩
      rw [← hm] at hown hnx htl
      have hm31 : m ≤ 31 := by omega
      replace hm := Lib.hid hm
      clear hy
      have hge : (0 : Int) ≤ (k : Int) := by omega
      have hs := hb.out.size
      have hsz3 : w.heap.size + 1 ≤ wr.heap.size := by have := hA.out.lt; omega
      have hsz4 : w.heap.size ≤ (wr.alloc (.cells #[.int .u8 ((x : Int) / 2 ^ (8 * (k % 8)) % 256)] 5)).heap.size := by rw [World.size_alloc]; omega
      have hrow : Hid (RowAt .u8 (wr.alloc (.cells #[.int .u8 ((x : Int) / 2 ^ (8 * (k % 8)) % 256)] 5)) (some ⟨wr.heap.size, 0, none⟩) [(x : Int) / 2 ^ (8 * (k % 8)) % 256]) := Lib.hid (rowAt_new wr _ [(x : Int) / 2 ^ (8 * (k % 8)) % 256])
      obtain ⟨av, cv, rfl⟩ := own_sliceB hown.out
      have hne : (Value.slice av m cv).ownBlock ≠ some w.heap.size := fun e => by have := (hown.out.lt _ e).1; omega
      have hlo : ∀ j, (Value.slice av m cv).ownBlock = some j → w.heap.size ≤ j := fun j e => by have := (hown.out.lt _ e).1; omega
      have g1 : m + [(x : Int) / 2 ^ (8 * (k % 8)) % 256].length ≤ maxLen := by rw [List.length_singleton]; unfold maxLen; omega
      have g2 : (m + [(x : Int) / 2 ^ (8 * (k % 8)) % 256].length) * 1 ≤ 140737488355328 := by rw [List.length_singleton]; omega
      have g3 : w.heap.size + 1 ≤ (wr.alloc (.cells #[.int .u8 ((x : Int) / 2 ^ (8 * (k % 8)) % 256)] 5)).heap.size := by rw [World.size_alloc]; omega
      replace g1 := Lib.hid g1
      replace g2 := Lib.hid g2
      replace g3 := Lib.hid g3
      go_wp2_with (at_builtin; refine wpList_append_row (wr.alloc (.cells #[.int .u8 ((x : Int) / 2 ^ (8 * (k % 8)) % 256)] 5)) rfl _ _ 93 rfl (w.heap.size + 1) 5 i0 (.int .u8 0) 1 Tryz.underlying93 hi0 hz0 hz1 hz2 rfl _ m _ rfl (own_belowB hown.out (xalloc (xrefl wr) _)) (some ⟨wr.heap.size, 0, none⟩) 1 .u8 [(x : Int) / 2 ^ (8 * (k % 8)) % 256] rfl (by simp) hrow.out g1.out g2.out g3.out ?_; intro v5 w5 ho5 hg5; have hA5 := Lib.hid ((hA.out.alloc _).only (only_grown hg5) hne); have hb5 := Lib.hid (Below.grown (xalloc hb.out _) hg5 hsz4 hlo); clear hg5)
      rw [hZ.out] at ho5
      refine ⟨⟨k, by omega, by go_num, hA5, Lib.hid ?_, hb5⟩, by simp [intOf]⟩
      rw [hnx.out, List.length_append, htl, natI_app, List.map_append]
      exact ho5
/-- The 32 bytes' row: its block, and the last twenty of them. -/
theorem own_row32 {N base : Nat} {w : World} {v : Value} (h : w.ownsRow base 5 1 v 32 ((natI (wbL N)).map (Value.int .u8))) (hwb : ∀ k, k < 20 → ((natI (wbL N)).map (Value.int .u8))[12 + k]? = (adrC (ofN N))[k]?) :
    ∃ g c, v = .slice (some ⟨g, 0, none⟩) 32 c ∧ base ≤ g ∧ (32 : Int) ≤ c ∧ Hid (w.rangeAt g 12 (adrC (ofN N))) := by
  rcases h.2 with ⟨-, h0⟩ | ⟨g, cap, cur, rfl, hg, hh, hc, _⟩
  · cases h0
  · refine ⟨g, cap, rfl, hg, by omega, Lib.hid fun j u hj => ?_⟩
    have hj20 : j < 20 := by
      have := (List.getElem?_eq_some_iff.1 hj).1
      rwa [adrC_len, ofN_len] at this
    rw [h.cellAt (12 + j) (by omega), hwb j hj20]
    exact hj
set_option maxRecDepth 100000 in
set_option maxHeartbeats 8000000 in
theorem ofA_any (N : Nat) (w : World) :
    Calls Tryz.prog 26 #[wordV N] w fun e w' => e = .returned (adrV (ofN N)) ∧ Below w.heap.size w w' := by
  have hby := fun W => bytesW_any N W
  have hA20 : (adrC (ofN N)).length = 20 := by rw [adrC_len, ofN_len]
  have hone : (adrC (ofN N)).all (·.oneCell') = true := by simp [adrC, Value.oneCell']
  have hwb := Lib.hid (wb_of N)
  have hat : ∀ (g c : Nat) (W : World), (Instr.arrayAt 29 (.slice (some ⟨g, 12, none⟩) 20 c)).run Tryz.prog W = .ok (.pointer (some ⟨g, 12, none⟩)) W := fun _ _ _ => by kernel_rfl
  unfold wordV adrV at *
  have hwl : (natI (wbL N)).length = 32 := by rw [natI_len, wbL_len]
  have hfm : ([Value.int .u64 (limb N 0), .int .u64 (limb N 1), .int .u64 (limb N 2), .int .u64 (limb N 3)] : List Value).length = 4 := rfl
  generalize hvs : [Value.int .u64 (limb N 0), .int .u64 (limb N 1), .int .u64 (limb N 2), .int .u64 (limb N 3)] = ws at *
  have hWd : Hid (BlkG ((w.alloc (.cells ws.toArray 43)).alloc (.cells ([.int .u8 0, .int .u8 0, .int .u8 0, .int .u8 0, .int .u8 0, .int .u8 0, .int .u8 0, .int .u8 0, .int .u8 0, .int .u8 0, .int .u8 0, .int .u8 0, .int .u8 0, .int .u8 0, .int .u8 0, .int .u8 0, .int .u8 0, .int .u8 0, .int .u8 0, .int .u8 0]).toArray 29)) w.heap.size 43 ws) := Lib.hid ((BlkG.new w _ _).alloc _)
  have hR : Hid (BlkG ((w.alloc (.cells ws.toArray 43)).alloc (.cells ([.int .u8 0, .int .u8 0, .int .u8 0, .int .u8 0, .int .u8 0, .int .u8 0, .int .u8 0, .int .u8 0, .int .u8 0, .int .u8 0, .int .u8 0, .int .u8 0, .int .u8 0, .int .u8 0, .int .u8 0, .int .u8 0, .int .u8 0, .int .u8 0, .int .u8 0, .int .u8 0]).toArray 29)) (w.heap.size + 1) 29 [.int .u8 0, .int .u8 0, .int .u8 0, .int .u8 0, .int .u8 0, .int .u8 0, .int .u8 0, .int .u8 0, .int .u8 0, .int .u8 0, .int .u8 0, .int .u8 0, .int .u8 0, .int .u8 0, .int .u8 0, .int .u8 0, .int .u8 0, .int .u8 0, .int .u8 0, .int .u8 0]) := Lib.hid (by
    have := BlkG.new (w.alloc (.cells ws.toArray 43)) 29 [.int .u8 0, .int .u8 0, .int .u8 0, .int .u8 0, .int .u8 0, .int .u8 0, .int .u8 0, .int .u8 0, .int .u8 0, .int .u8 0, .int .u8 0, .int .u8 0, .int .u8 0, .int .u8 0, .int .u8 0, .int .u8 0, .int .u8 0, .int .u8 0, .int .u8 0, .int .u8 0]
    rwa [World.size_alloc] at this)
  have hb0 : Hid (Below w.heap.size w ((w.alloc (.cells ws.toArray 43)).alloc (.cells ([.int .u8 0, .int .u8 0, .int .u8 0, .int .u8 0, .int .u8 0, .int .u8 0, .int .u8 0, .int .u8 0, .int .u8 0, .int .u8 0, .int .u8 0, .int .u8 0, .int .u8 0, .int .u8 0, .int .u8 0, .int .u8 0, .int .u8 0, .int .u8 0, .int .u8 0, .int .u8 0]).toArray 29))) := Lib.hid (xalloc (xalloc (xrefl w) _) _)
  have hs0 : Hid (((w.alloc (.cells ws.toArray 43)).alloc (.cells ([.int .u8 0, .int .u8 0, .int .u8 0, .int .u8 0, .int .u8 0, .int .u8 0, .int .u8 0, .int .u8 0, .int .u8 0, .int .u8 0, .int .u8 0, .int .u8 0, .int .u8 0, .int .u8 0, .int .u8 0, .int .u8 0, .int .u8 0, .int .u8 0, .int .u8 0, .int .u8 0]).toArray 29)).heap.size = w.heap.size + 2) := Lib.hid (by rw [World.size_alloc, World.size_alloc])
  replace hby := Lib.hid hby
  clear hvs
  go_enter Tryz.func26, Tryz.ntmps26
  go_upto_region 1 with fail
  generalize (w.alloc (.cells ws.toArray 43)).alloc (.cells #[.int .u8 0, .int .u8 0, .int .u8 0, .int .u8 0, .int .u8 0, .int .u8 0, .int .u8 0, .int .u8 0, .int .u8 0, .int .u8 0, .int .u8 0, .int .u8 0, .int .u8 0, .int .u8 0, .int .u8 0, .int .u8 0, .int .u8 0, .int .u8 0, .int .u8 0, .int .u8 0] 29) = w0 at *
  have hs0 := hs0.out
  go_wp2_with (first
    | (refine wpList_load_blkG rfl 43 _ rfl w.heap.size rfl 43 _ _ hWd.out Tryz.underlying43 rfl (by rw [hfm]; kernel_rfl) ?_)
    | (go_at_call 56; refine (hby.out _).mono ?_; rintro e w2 ⟨⟨v2, rfl, ho2⟩, hb2⟩; obtain ⟨g2, c2, rfl, hge2, hc2, hr2⟩ := own_row32 ho2 hwb.out; have hR2 := Lib.hid (hR.out.below hb2); have hsz2 := hb2.size; replace hb2 := Lib.hid (xtrans hb0.out hb2); clear ho2)
    | (refine wpList_load_mid rfl 29 _ rfl g2 12 rfl (adrC (ofN N)) _ hr2.out Tryz.underlying29 rfl (by rw [hA20]; kernel_rfl) ?_)
    | (refine wpList_store_blkG rfl 29 _ _ rfl (w.heap.size + 1) rfl 29 [.int .u8 0, .int .u8 0, .int .u8 0, .int .u8 0, .int .u8 0, .int .u8 0, .int .u8 0, .int .u8 0, .int .u8 0, .int .u8 0, .int .u8 0, .int .u8 0, .int .u8 0, .int .u8 0, .int .u8 0, .int .u8 0, .int .u8 0, .int .u8 0, .int .u8 0, .int .u8 0] (adrC (ofN N)) hR2.out rfl (by rw [hA20]; rfl) (by rw [hA20]; kernel_rfl) hone ?_; intro w4 hB4 ho4; have hb4 := Lib.hid (ho4.below hb2.out hb2.out.size (by rintro k rfl; omega)); replace hB4 := Lib.hid hB4; clear ho4))
  exact bodyPost_ret (results_blkG (p := 2) rfl _ _ (w.heap.size + 1) 29 _ _ rfl hB4.out Tryz.underlying29 rfl (by rw [hA20]; kernel_rfl)) rfl ⟨rfl, hb4.out⟩
end Go.Proofs.YthpallkphamobaaGreatDoor
