/- Texts of this claim, merged; no condition. -/
import Derived.Test.YthpallkphamobaaGreatDoorE12
import Derived.Test.YthpallkphamobaaGreatDoorE00
import Derived.Test.YthpallkphamobaaGreatDoorE01
set_option linter.all false
namespace Go.Proofs.YthpallkphamobaaGreatDoor
open Go.RowKit Go.Shelf

theorem adrC_app (bs : List Nat) (k : Nat) (hb : bs.length = k) (hk : k < 20) (z : Nat) : (adrC (bs ++ List.replicate (20 - k) 0)).set k (.int .u8 z) = adrC ((bs ++ [z]) ++ List.replicate (20 - (k + 1)) 0) := by
  have h2 : 20 - k = (20 - (k + 1)) + 1 := by omega
  rw [h2, List.replicate_succ]
  unfold adrC natI
  subst hb
  simp
theorem adrC_at (bs : List Nat) (k : Nat) (hb : bs.length = k) (hk : k < 20) : (adrC (bs ++ List.replicate (20 - k) 0))[k]? = some (.int .u8 0) := by
  unfold adrC natI
  subst hb
  rw [List.getElem?_map, List.getElem?_map, List.getElem?_append_right (by omega), Nat.sub_self, List.getElem?_replicate, if_pos (by omega)]
  rfl
set_option maxRecDepth 100000 in
set_option maxHeartbeats 8000000 in
theorem refAddress_any (x : List UInt8) (w : World) (hx : x.length ≤ 4194304) :
    Calls Tryz.prog 19 #[.string ⟨x.toArray⟩] w fun e w' => e = .returned (.tuple #[.agg (adrC ((addrF x).getD zAdr)).toArray, .bool (addrF x).isSome]) ∧ Below w.heap.size w w' := by
  have hB : BlkG ((w.alloc (.cells zAdrC.toArray 29)).alloc (.cells zAdrC.toArray 29)) (w.heap.size + 1) 29 zAdrC := by
    have := BlkG.new (w.alloc (.cells zAdrC.toArray 29)) 29 zAdrC
    rwa [World.size_alloc] at this
  have hA : BlkG ((w.alloc (.cells zAdrC.toArray 29)).alloc (.cells zAdrC.toArray 29)) w.heap.size 29 zAdrC := (BlkG.new w _ _).alloc _
  have hb0 : Below w.heap.size w ((w.alloc (.cells zAdrC.toArray 29)).alloc (.cells zAdrC.toArray 29)) := xalloc (xalloc (xrefl w) _) _
  have hzl : zAdrC.length = 20 := rfl
  have hzo : zAdrC.all (·.oneCell') = true := by decide
  have hsz : (⟨x.toArray⟩ : ByteArray).size = x.length := by show x.toArray.size = _; simp
  replace hB := Lib.hid hB
  replace hA := Lib.hid hA
  replace hb0 := Lib.hid hb0
  have hfail : addrF x = none → Ending.returned (.tuple #[.agg zAdrC.toArray, .bool false]) = .returned (.tuple #[.agg (adrC ((addrF x).getD zAdr)).toArray, .bool (addrF x).isSome]) := fun h => by rw [h]; rfl
  by_cases h42 : x.length = 42
  · have h42I : (x.length : Int) = 42 := by omega
    have hsl := fun W => run_cut2 x W (by omega)
    by_cases h3 : x.take 2 = [48, 120]
    · have h3b : (x.take 2 == [48, 120]) = true := by rw [h3]; rfl
      obtain ⟨l, hxl⟩ : ∃ l, x = 48 :: 120 :: l := ⟨x.drop 2, by
        have := List.take_append_drop 2 x
        rw [h3] at this
        exact this.symm⟩
      have hl40 : l.length = 40 := by rw [hxl] at h42; simp at h42; omega
      have hF : addrF x = (unhexP l).bind fun z => if z.length = 20 then some z else none := by rw [hxl]; rfl
      have hgetx : ∀ j (h : j < l.length) W, (Instr.index 9 (.string ⟨x.toArray⟩) (.int .i64 (2 + j : Nat))).run Tryz.prog W = .ok (.int .u8 (l[j].toNat : Nat)) W := fun j h W => by
        have h1 : 2 + j < x.length := by omega
        rw [run_at_str x (2 + j) h1 W]
        have h2 : x[2 + j] = l[j] := by
          have : x[2 + j]? = l[j]? := by rw [hxl, Nat.add_comm]; rfl
          rw [List.getElem?_eq_getElem h1, List.getElem?_eq_getElem h] at this
          exact Option.some.inj this
        rw [h2]
      have hst0 : Hid (unhexP l = (unhexP (l.drop 0)).map (([] : List Nat) ++ ·)) := Lib.hid (by rw [List.drop_zero]; cases unhexP l <;> rfl)
      have hdrop := Lib.hid fun k h => drop_two l k h
      have hnone : unhexP l = none → addrF x = none := fun h => by rw [hF, h]; rfl
      have hsome : ∀ bs, unhexP l = some bs → bs.length = 20 → addrF x = some bs := fun bs h h2 => by rw [hF, h, Option.bind_some, if_pos h2]
      replace hnone := Lib.hid fun h => hfail (hnone h)
      replace hsome := Lib.hid hsome
      replace hgetx := Lib.hid hgetx
      have hdg := Lib.hid fun (c : Nat) (hc : c < 256) W => refDigit_any c W hc
      replace hl40 := Lib.hid hl40
      have hB0 : BlkG ((w.alloc (.cells zAdrC.toArray 29)).alloc (.cells zAdrC.toArray 29)) (w.heap.size + 1) 29 (adrC (([] : List Nat) ++ List.replicate (20 - 0) 0)) := hB.out
      have hA0 : BlkG ((w.alloc (.cells zAdrC.toArray 29)).alloc (.cells zAdrC.toArray 29)) w.heap.size 29 zAdrC := hA.out
      replace hA := Lib.hid hA0
      replace hB := Lib.hid hB0
      clear hfail h3 hxl hF hx h42 hA0 hB0
      generalize hzz : adrC (([] : List Nat) ++ List.replicate (20 - 0) 0) = zz at *
      have hlit : zAdrC = [.int .u8 0, .int .u8 0, .int .u8 0, .int .u8 0, .int .u8 0, .int .u8 0, .int .u8 0, .int .u8 0, .int .u8 0, .int .u8 0, .int .u8 0, .int .u8 0, .int .u8 0, .int .u8 0, .int .u8 0, .int .u8 0, .int .u8 0, .int .u8 0, .int .u8 0, .int .u8 0] := rfl
      rw [hlit] at hb0 hA hB
      generalize x.take 2 = l2 at *
      go_enter Tryz.func19, Tryz.ntmps19
      go_upto_region 2 with fail
      generalize (w.alloc (.cells #[.int .u8 0, .int .u8 0, .int .u8 0, .int .u8 0, .int .u8 0, .int .u8 0, .int .u8 0, .int .u8 0, .int .u8 0, .int .u8 0, .int .u8 0, .int .u8 0, .int .u8 0, .int .u8 0, .int .u8 0, .int .u8 0, .int .u8 0, .int .u8 0, .int .u8 0, .int .u8 0] 29)).alloc (.cells #[.int .u8 0, .int .u8 0, .int .u8 0, .int .u8 0, .int .u8 0, .int .u8 0, .int .u8 0, .int .u8 0, .int .u8 0, .int .u8 0, .int .u8 0, .int .u8 0, .int .u8 0, .int .u8 0, .int .u8 0, .int .u8 0, .int .u8 0, .int .u8 0, .int .u8 0, .int .u8 0] 29) = w0 at *

      go_wp2
      replace hzz := Lib.hid hzz
      go_loopw [5] (fun iv wx => ∃ (k : Nat) (bs : List Nat), iv = .int .i64 k ∧ k ≤ 20 ∧ Hid (bs.length = k) ∧ Hid (BlkG wx (w.heap.size + 1) 29 (adrC (bs ++ List.replicate (20 - k) 0))) ∧ Hid (BlkG wx w.heap.size 29 [.int .u8 0, .int .u8 0, .int .u8 0, .int .u8 0, .int .u8 0, .int .u8 0, .int .u8 0, .int .u8 0, .int .u8 0, .int .u8 0, .int .u8 0, .int .u8 0, .int .u8 0, .int .u8 0, .int .u8 0, .int .u8 0, .int .u8 0, .int .u8 0, .int .u8 0, .int .u8 0]) ∧ Hid (unhexP l = (unhexP (l.drop (2 * k))).map (bs ++ ·)) ∧ Hid (Below w.heap.size w wx)) (fun iv _ => 20 - (intOf iv).toNat)
      case atStart => exact ⟨0, [], rfl, by omega, Lib.hid rfl, Lib.hid (by rw [hzz.out]; exact hB.out), hA, hst0, hb0⟩
      case round =>
        clear hst0 hB hA hb0 hzz hlit
        obtain ⟨k, bs, rfl, hk, hbl, hBk, hAk, hst, hb⟩ := hrel
        by_cases hlt : k < 20
        · have hltI : (k : Int) < 20 := by omega
          have hl40' := hl40.out
          have hj0 : 2 * k < l.length := by omega
          have hj1 : 2 * k + 1 < l.length := by omega
          have hcut := hdrop.out (2 * k) hj1
          have hs1 := hst.out
          rw [hcut] at hs1
          obtain ⟨hgo, hno⟩ := unhexP_step hs1
          have hia := fun W => hgetx.out (2 * k) hj0 W
          have hib := fun W => hgetx.out (2 * k + 1) hj1 W
          have hwk : IntKind.i64.wrap (2 * (k : Int)) = ((2 * k : Nat) : Int) := by simp [IntKind.wrap, IntKind.bits, IntKind.signed]; omega
          have hw2 : IntKind.i64.wrap (2 + ((2 * k : Nat) : Int)) = ((2 + 2 * k : Nat) : Int) := by simp [IntKind.wrap, IntKind.bits, IntKind.signed]; omega
          have hw3 : IntKind.i64.wrap (3 + ((2 * k : Nat) : Int)) = ((2 + (2 * k + 1) : Nat) : Int) := by simp [IntKind.wrap, IntKind.bits, IntKind.signed]; omega
          have hdr : Hid (l.drop (2 * k + 2) = l.drop (2 * (k + 1))) := Lib.hid rfl
          rw [hdr.out] at hgo
          have da : ∀ d, digO l[2 * k] = some d → digI l[2 * k].toNat = d := fun d h => digI_some h
          have db : ∀ d, digO l[2 * k + 1] = some d → digI l[2 * k + 1].toNat = d := fun d h => digI_some h
          have na : digO l[2 * k] = none → digI l[2 * k].toNat = -1 := fun h => digI_none h
          have nb : digO l[2 * k + 1] = none → digI l[2 * k + 1].toNat = -1 := fun h => digI_none h
          have la : l[2 * k].toNat < 256 := UInt8.toNat_lt l[2 * k]
          have lb : l[2 * k + 1].toNat < 256 := UInt8.toNat_lt l[2 * k + 1]
          generalize l[2 * k] = ca at *
          generalize l[2 * k + 1] = cb at *
          generalize ca.toNat = xa at *
          generalize cb.toNat = xb at *
          generalize 2 + (2 * k + 1) = j3 at *
          generalize 2 + 2 * k = j2 at *
          replace hgo := Lib.hid hgo
          replace hno := Lib.hid hno
          clear hs1 hcut hj0 hj1 hst hdr
          generalize 2 * k = j at *
          cases hqa : digO ca with
          | none =>
            have ea := na hqa
            have hq := Lib.hid (hnone.out (hno.out (.inl hqa)))
            go_wp2
            go_quiet (first | (go_at_call 49; refine Calls.quiet_of_same (hdg.out _ (by assumption) _)))
            have hA9 : Hid (BlkG (wr.drewN nq) w.heap.size 29 [.int .u8 0, .int .u8 0, .int .u8 0, .int .u8 0, .int .u8 0, .int .u8 0, .int .u8 0, .int .u8 0, .int .u8 0, .int .u8 0, .int .u8 0, .int .u8 0, .int .u8 0, .int .u8 0, .int .u8 0, .int .u8 0, .int .u8 0, .int .u8 0, .int .u8 0, .int .u8 0]) := Lib.hid hAk.out
            have hb9 : Hid (Below w.heap.size w (wr.drewN nq)) := Lib.hid (xtrans hb.out ⟨rfl, rfl, rfl, Nat.le_refl _, fun _ _ => rfl⟩)
            generalize wr.drewN nq = w9 at *
            go_wp2_with (refine wpList_store_blkG rfl 29 _ _ rfl w.heap.size rfl 29 [.int .u8 0, .int .u8 0, .int .u8 0, .int .u8 0, .int .u8 0, .int .u8 0, .int .u8 0, .int .u8 0, .int .u8 0, .int .u8 0, .int .u8 0, .int .u8 0, .int .u8 0, .int .u8 0, .int .u8 0, .int .u8 0, .int .u8 0, .int .u8 0, .int .u8 0, .int .u8 0] [.int .u8 0, .int .u8 0, .int .u8 0, .int .u8 0, .int .u8 0, .int .u8 0, .int .u8 0, .int .u8 0, .int .u8 0, .int .u8 0, .int .u8 0, .int .u8 0, .int .u8 0, .int .u8 0, .int .u8 0, .int .u8 0, .int .u8 0, .int .u8 0, .int .u8 0, .int .u8 0] hA9.out rfl rfl (by kernel_rfl) (by decide) ?_; intro w3 hB3 ho3; have hb3 := Lib.hid (ho3.below hb9.out (Below.size hb9.out) (by rintro q rfl; exact Nat.le_refl _)); replace hB3 := Lib.hid hB3; clear ho3)
            exact bodyPost_ret (results_blkG2 (p := 2) (r := 3) rfl _ _ w.heap.size 29 _ _ rfl hB3.out Tryz.underlying29 rfl (by kernel_rfl)) rfl ⟨hq.out, hb3.out⟩
          | some xd =>
            have ea := da _ hqa
            cases hqb : digO cb with
            | none =>
              have eb := nb hqb
              have hx0 : ¬ (xd : Int) < 0 := by omega
              have hq := Lib.hid (hnone.out (hno.out (.inr hqb)))
              go_wp2
              go_quiet (first | (go_at_call 49; refine Calls.quiet_of_same (hdg.out _ (by assumption) _)))
              have hA9 : Hid (BlkG (wr.drewN nq) w.heap.size 29 [.int .u8 0, .int .u8 0, .int .u8 0, .int .u8 0, .int .u8 0, .int .u8 0, .int .u8 0, .int .u8 0, .int .u8 0, .int .u8 0, .int .u8 0, .int .u8 0, .int .u8 0, .int .u8 0, .int .u8 0, .int .u8 0, .int .u8 0, .int .u8 0, .int .u8 0, .int .u8 0]) := Lib.hid hAk.out
              have hb9 : Hid (Below w.heap.size w (wr.drewN nq)) := Lib.hid (xtrans hb.out ⟨rfl, rfl, rfl, Nat.le_refl _, fun _ _ => rfl⟩)
              generalize wr.drewN nq = w9 at *
              go_wp2_with (refine wpList_store_blkG rfl 29 _ _ rfl w.heap.size rfl 29 [.int .u8 0, .int .u8 0, .int .u8 0, .int .u8 0, .int .u8 0, .int .u8 0, .int .u8 0, .int .u8 0, .int .u8 0, .int .u8 0, .int .u8 0, .int .u8 0, .int .u8 0, .int .u8 0, .int .u8 0, .int .u8 0, .int .u8 0, .int .u8 0, .int .u8 0, .int .u8 0] [.int .u8 0, .int .u8 0, .int .u8 0, .int .u8 0, .int .u8 0, .int .u8 0, .int .u8 0, .int .u8 0, .int .u8 0, .int .u8 0, .int .u8 0, .int .u8 0, .int .u8 0, .int .u8 0, .int .u8 0, .int .u8 0, .int .u8 0, .int .u8 0, .int .u8 0, .int .u8 0] hA9.out rfl rfl (by kernel_rfl) (by decide) ?_; intro w3 hB3 ho3; have hb3 := Lib.hid (ho3.below hb9.out (Below.size hb9.out) (by rintro q rfl; exact Nat.le_refl _)); replace hB3 := Lib.hid hB3; clear ho3)
              exact bodyPost_ret (results_blkG2 (p := 2) (r := 3) rfl _ _ w.heap.size 29 _ _ rfl hB3.out Tryz.underlying29 rfl (by kernel_rfl)) rfl ⟨hq.out, hb3.out⟩
            | some yd =>
              have eb := db _ hqb
              have hx16 := dig_lt hqa
              have hy16 := dig_lt hqb
              have hx0 : ¬ (xd : Int) < 0 := by omega
              have hy0 : ¬ (yd : Int) < 0 := by omega
              obtain ⟨z, hz⟩ : ∃ z : Nat, z = 16 * xd + yd := ⟨_, rfl⟩
              have hzI : 16 * (xd : Int) + (yd : Int) = (z : Int) := by omega
              have hz8 : IntKind.u8.wrap (z : Int) = (z : Int) := by simp [IntKind.wrap, IntKind.bits, IntKind.signed]; omega
              have hs2 := hgo.out xd yd hqa hqb
              rw [← hz] at hs2
              replace hs2 := Lib.hid hs2
              clear hz
              go_wp2
              go_quiet (first | (go_at_call 49; refine Calls.quiet_of_same (hdg.out _ (by assumption) _)))
              have hA9 : Hid (BlkG (wr.drewN nq) w.heap.size 29 [.int .u8 0, .int .u8 0, .int .u8 0, .int .u8 0, .int .u8 0, .int .u8 0, .int .u8 0, .int .u8 0, .int .u8 0, .int .u8 0, .int .u8 0, .int .u8 0, .int .u8 0, .int .u8 0, .int .u8 0, .int .u8 0, .int .u8 0, .int .u8 0, .int .u8 0, .int .u8 0]) := Lib.hid hAk.out
              have hB9 : Hid (BlkG (wr.drewN nq) (w.heap.size + 1) 29 (adrC (bs ++ List.replicate (20 - k) 0))) := Lib.hid hBk.out
              have hb9 : Hid (Below w.heap.size w (wr.drewN nq)) := Lib.hid (xtrans hb.out ⟨rfl, rfl, rfl, Nat.le_refl _, fun _ _ => rfl⟩)
              generalize wr.drewN nq = w9 at *
              have cz := blk_cell hB9.out (adrC_at bs k hbl.out hlt)
              have fz := hB9.out.free k
              go_wp2
              have hB4 := hB9.out.set k (.int .u8 z)
              rw [adrC_app bs k hbl.out hlt z] at hB4
              have ho : Only (· = w.heap.size + 1) w9 (w9.setCell ⟨w.heap.size + 1, k, none⟩ (.int .u8 z)) := (Only.refl _ _).setCell _ _ rfl
              exact ⟨⟨k + 1, bs ++ [z], by first | rfl | simp, by omega, Lib.hid (by rw [List.length_append, hbl.out]; rfl), Lib.hid hB4, Lib.hid (hA9.out.only ho (by omega)), hs2, Lib.hid (ho.below hb9.out hb9.out.size (by rintro q rfl; omega))⟩, by simp [intOf]; omega⟩
        · obtain rfl : k = 20 := by omega
          have hq : unhexP l = some bs := by
            rw [hst.out, List.drop_of_length_le (by rw [hl40.out]; exact Nat.le_refl _), unhexP]; simp
          have hfin := Lib.hid (hsome.out bs hq hbl.out)
          have hbl2 := hbl.out
          have happ : bs ++ List.replicate (20 - 20) 0 = bs := by simp
          rw [happ] at hBk
          have hA20 : (adrC bs).length = 20 := by rw [adrC_len, hbl2]
          have hone : (adrC bs).all (·.oneCell') = true := by simp [adrC, Value.oneCell']
          clear hq hst hbl2 happ hlt
          go_wp2_with (first
            | (refine wpList_load_mid rfl 29 _ rfl (w.heap.size + 1) 0 rfl (adrC bs) _ (BlkG.range hBk.out) Tryz.underlying29 rfl (by rw [hA20]; kernel_rfl) ?_)
            | (refine wpList_store_blkG rfl 29 _ _ rfl w.heap.size rfl 29 [.int .u8 0, .int .u8 0, .int .u8 0, .int .u8 0, .int .u8 0, .int .u8 0, .int .u8 0, .int .u8 0, .int .u8 0, .int .u8 0, .int .u8 0, .int .u8 0, .int .u8 0, .int .u8 0, .int .u8 0, .int .u8 0, .int .u8 0, .int .u8 0, .int .u8 0, .int .u8 0] (adrC bs) hAk.out rfl (by rw [hA20]; rfl) (by rw [hA20]; kernel_rfl) hone ?_; intro w3 hB3 ho3; have hb3 := Lib.hid (ho3.below hb.out (Below.size hb.out) (by rintro q rfl; exact Nat.le_refl _)); replace hB3 := Lib.hid hB3; clear ho3))
          exact bodyPost_ret (results_blkG2 (p := 2) (r := 3) rfl _ _ w.heap.size 29 _ _ rfl hB3.out Tryz.underlying29 rfl (by rw [hA20]; kernel_rfl)) rfl ⟨by rw [hfin.out]; rfl, hb3.out⟩
    · have hn : addrF x = none := by
        cases h : addrF x with
        | none => rfl
        | some a =>
          obtain ⟨h1, h2, _⟩ := addr_some h
          rw [← h1] at h3
          exact absurd rfl h3
      replace hfail := Lib.hid (hfail hn)
      have h3b : (x.take 2 == [48, 120]) = false := by simpa using h3
      clear hn h42 hx h3
      generalize x.take 2 = l2 at *
      rw [← hfail.out]
      clear hfail
      unfold zAdrC at hA hB hb0 ⊢
      go_enter Tryz.func19, Tryz.ntmps19
      go_upto_region 2 with fail
      generalize (w.alloc (.cells #[.int .u8 0, .int .u8 0, .int .u8 0, .int .u8 0, .int .u8 0, .int .u8 0, .int .u8 0, .int .u8 0, .int .u8 0, .int .u8 0, .int .u8 0, .int .u8 0, .int .u8 0, .int .u8 0, .int .u8 0, .int .u8 0, .int .u8 0, .int .u8 0, .int .u8 0, .int .u8 0] 29)).alloc (.cells #[.int .u8 0, .int .u8 0, .int .u8 0, .int .u8 0, .int .u8 0, .int .u8 0, .int .u8 0, .int .u8 0, .int .u8 0, .int .u8 0, .int .u8 0, .int .u8 0, .int .u8 0, .int .u8 0, .int .u8 0, .int .u8 0, .int .u8 0, .int .u8 0, .int .u8 0, .int .u8 0] 29) = w0 at *

      go_wp2_with (first
        | (refine wpList_load_mid rfl 29 _ rfl (w.heap.size + 1) 0 rfl [.int .u8 0, .int .u8 0, .int .u8 0, .int .u8 0, .int .u8 0, .int .u8 0, .int .u8 0, .int .u8 0, .int .u8 0, .int .u8 0, .int .u8 0, .int .u8 0, .int .u8 0, .int .u8 0, .int .u8 0, .int .u8 0, .int .u8 0, .int .u8 0, .int .u8 0, .int .u8 0] _ (BlkG.range hB.out) Tryz.underlying29 rfl (by kernel_rfl) ?_)
        | (refine wpList_store_blkG rfl 29 _ _ rfl w.heap.size rfl 29 [.int .u8 0, .int .u8 0, .int .u8 0, .int .u8 0, .int .u8 0, .int .u8 0, .int .u8 0, .int .u8 0, .int .u8 0, .int .u8 0, .int .u8 0, .int .u8 0, .int .u8 0, .int .u8 0, .int .u8 0, .int .u8 0, .int .u8 0, .int .u8 0, .int .u8 0, .int .u8 0] [.int .u8 0, .int .u8 0, .int .u8 0, .int .u8 0, .int .u8 0, .int .u8 0, .int .u8 0, .int .u8 0, .int .u8 0, .int .u8 0, .int .u8 0, .int .u8 0, .int .u8 0, .int .u8 0, .int .u8 0, .int .u8 0, .int .u8 0, .int .u8 0, .int .u8 0, .int .u8 0] hA.out rfl rfl (by kernel_rfl) hzo ?_; intro w3 hB3 ho3; have hb3 := Lib.hid (ho3.below hb0.out (Below.size hb0.out) (by rintro q rfl; exact Nat.le_refl _)); replace hB3 := Lib.hid hB3; clear ho3))
      exact bodyPost_ret (results_blkG2 (p := 2) (r := 3) rfl _ _ w.heap.size 29 _ _ rfl hB3.out Tryz.underlying29 rfl (by kernel_rfl)) rfl ⟨rfl, hb3.out⟩
  · have hn : addrF x = none := by
      cases h : addrF x with
      | none => rfl
      | some a =>
        obtain ⟨h1, h2, h3⟩ := addr_some h
        rw [← h1, hexN_len, h3] at h42
        exact absurd rfl h42
    replace hfail := Lib.hid (hfail hn)
    have h42I : ¬ (x.length : Int) = 42 := by omega
    clear hn h42 hx
    rw [← hfail.out]
    clear hfail
    unfold zAdrC at hA hB hb0 ⊢
    go_enter Tryz.func19, Tryz.ntmps19
    go_upto_region 2 with fail
    generalize (w.alloc (.cells #[.int .u8 0, .int .u8 0, .int .u8 0, .int .u8 0, .int .u8 0, .int .u8 0, .int .u8 0, .int .u8 0, .int .u8 0, .int .u8 0, .int .u8 0, .int .u8 0, .int .u8 0, .int .u8 0, .int .u8 0, .int .u8 0, .int .u8 0, .int .u8 0, .int .u8 0, .int .u8 0] 29)).alloc (.cells #[.int .u8 0, .int .u8 0, .int .u8 0, .int .u8 0, .int .u8 0, .int .u8 0, .int .u8 0, .int .u8 0, .int .u8 0, .int .u8 0, .int .u8 0, .int .u8 0, .int .u8 0, .int .u8 0, .int .u8 0, .int .u8 0, .int .u8 0, .int .u8 0, .int .u8 0, .int .u8 0] 29) = w0 at *

    go_wp2_with (first
        | (refine wpList_load_mid rfl 29 _ rfl (w.heap.size + 1) 0 rfl [.int .u8 0, .int .u8 0, .int .u8 0, .int .u8 0, .int .u8 0, .int .u8 0, .int .u8 0, .int .u8 0, .int .u8 0, .int .u8 0, .int .u8 0, .int .u8 0, .int .u8 0, .int .u8 0, .int .u8 0, .int .u8 0, .int .u8 0, .int .u8 0, .int .u8 0, .int .u8 0] _ (BlkG.range hB.out) Tryz.underlying29 rfl (by kernel_rfl) ?_)
        | (refine wpList_store_blkG rfl 29 _ _ rfl w.heap.size rfl 29 [.int .u8 0, .int .u8 0, .int .u8 0, .int .u8 0, .int .u8 0, .int .u8 0, .int .u8 0, .int .u8 0, .int .u8 0, .int .u8 0, .int .u8 0, .int .u8 0, .int .u8 0, .int .u8 0, .int .u8 0, .int .u8 0, .int .u8 0, .int .u8 0, .int .u8 0, .int .u8 0] [.int .u8 0, .int .u8 0, .int .u8 0, .int .u8 0, .int .u8 0, .int .u8 0, .int .u8 0, .int .u8 0, .int .u8 0, .int .u8 0, .int .u8 0, .int .u8 0, .int .u8 0, .int .u8 0, .int .u8 0, .int .u8 0, .int .u8 0, .int .u8 0, .int .u8 0, .int .u8 0] hA.out rfl rfl (by kernel_rfl) hzo ?_; intro w3 hB3 ho3; have hb3 := Lib.hid (ho3.below hb0.out (Below.size hb0.out) (by rintro q rfl; exact Nat.le_refl _)); replace hB3 := Lib.hid hB3; clear ho3))
    exact bodyPost_ret (results_blkG2 (p := 2) (r := 3) rfl _ _ w.heap.size 29 _ _ rfl hB3.out Tryz.underlying29 rfl (by kernel_rfl)) rfl ⟨rfl, hb3.out⟩
end Go.Proofs.YthpallkphamobaaGreatDoor
namespace Go.Proofs.YthpallkphamobaaGreatDoor

/-- The number of bytes, the highest first. -/
def numN (l : List Nat) : Nat := l.foldl (fun a b => a * 256 + b) 0
theorem numN_snoc (l : List Nat) (b : Nat) : numN (l ++ [b]) = numN l * 256 + b := by unfold numN; rw [List.foldl_append]; rfl
theorem numN_lt (l : List Nat) (h : ∀ b ∈ l, b < 256) : numN l < 256 ^ l.length := by
  have : ∀ (l : List Nat) (a k : Nat), (∀ b ∈ l, b < 256) → a < 256 ^ k → l.foldl (fun a b => a * 256 + b) a < 256 ^ (k + l.length) := by
    intro l
    induction l with
    | nil => intro a k _ h; simpa using h
    | cons b l ih =>
      intro a k hb ha
      have h1 := hb b (by simp)
      have h2 : a * 256 + b < 256 ^ (k + 1) := by rw [Nat.pow_succ]; omega
      have := ih (a * 256 + b) (k + 1) (fun c hc => hb c (by simp [hc])) h2
      rw [List.foldl_cons, List.length_cons, show k + (l.length + 1) = k + 1 + l.length by omega]
      exact this
  have := this l 0 0 h (by simp)
  simpa [numN] using this
end Go.Proofs.YthpallkphamobaaGreatDoor
namespace Go.Proofs.YthpallkphamobaaGreatDoor
open Go.RowKit

theorem refBytes_any (N : Nat) (w : World) :
    Calls Tryz.prog 57 #[wordV N] w fun e w' => e = .returned (.agg ((bytesL N).map (Value.int .u8)).toArray) ∧ Below w.heap.size w w' := by
  unfold wordV
  go_enter Tryz.func57, Tryz.ntmps57
  go_wp2
  go_loopw [4] (fun i wr => ∃ k : Nat, k ≤ 32 ∧ i = .int .i64 k ∧ Blk .u64 wr w.heap.size 43 (wordL N) ∧ Blk .u8 wr (w.heap.size + 1) 108 zs32 ∧ Blk .u8 wr (w.heap.size + 1 + 1) 108 (bytesTo N k) ∧ Below w.heap.size w wr) (fun i _ => 32 - (intOf i).toNat)
  case atStart =>
    exact ⟨0, by omega, rfl, ((Blk.new w _ (wordL N)).alloc _).alloc _, (Blk.new' _ _ _ zs32 (by simp)).alloc _, Blk.new' _ _ _ (bytesTo N 0) (by simp), xalloc (xalloc (xalloc (xrefl _) _) _) _⟩
  case round =>
    obtain ⟨k, hk, rfl, hA, hR, hB, hb⟩ := hrel
    by_cases hlt : k < 32
    · have hc1 := hA.cell (k / 8) (by show k / 8 < 4; omega)
      rw [wordL_get] at hc1
      have hc2 := hB.cell (31 - k) (by rw [bytesTo_len]; omega)
      have hf2 := hB.frozen (31 - k)
      have hx := limb_lt N (k / 8)
      have hy := limb_byte N k
      generalize limb N (k / 8) = x at hc1 hx hy
      generalize (bytesTo N k)[31 - k]'(by rw [bytesTo_len]; omega) = y0 at hc2
      have Hy := Lib.hid hy
      clear hy
      go_wp2
      go_roundw
      case rel =>
        refine ⟨k + 1, by omega, by go_num, hA.oth _ (by omega), hR.oth _ (by omega), ?_, xsetb hb (by omega) _⟩
        have := hB.set (31 - k) (byteAt N k : Int)
        rw [bytesTo_succ N k hlt, ← Hy.out] at this
        simpa using this
      case measure => simp [intOf]; omega
    · have hk32 : k = 32 := by omega
      subst hk32
      rw [bytesTo_all] at hB
      clear hlt
      go_wp2_with (first
        | (refine wpList_load_blk rfl 108 _ rfl (w.heap.size + 1 + 1) rfl .u8 108 (bytesL N) _ _ hB Tryz.underlying108 (by kernel_rfl) ?_)
        | (refine wpList_store_blk rfl 108 _ _ rfl (w.heap.size + 1) rfl .u8 108 zs32 (bytesL N) hR rfl rfl (by kernel_rfl) ?_; intro w2 h2 ho2))
      refine ret_blk rfl (w.heap.size + 1) .u8 108 (bytesL N) _ _ rfl h2 Tryz.underlying108 (by kernel_rfl) rfl ⟨rfl, ?_⟩
      exact ho2.below hb hb.size (by rintro i rfl; omega)

theorem bytesL_get (N j : Nat) (h : j < (bytesL N).length) : (bytesL N)[j] = byteAt N (31 - j) := by simp [bytesL]

theorem or_byte (x y s : Nat) (hx : x < 2 ^ s) (hx6 : x < 18446744073709551616) (hy : y * 2 ^ s < 18446744073709551616) : bits .or .u64 (x : Int) (IntKind.u64.wrap ((y : Int) * 2 ^ s)) = ((x + y * 2 ^ s : Nat) : Int) := by
  have e : ((y : Int) * 2 ^ s) = ((y * 2 ^ s : Nat) : Int) := by simp
  have w64 : ∀ n : Nat, n < 18446744073709551616 → IntKind.u64.wrap (n : Int) = n := by
    intro n hn
    simp [IntKind.wrap, IntKind.bits, IntKind.signed]; omega
  have o : ∀ n : Nat, BitVec.ofInt 64 (n : Int) = BitVec.ofNat 64 n := fun n => BitVec.ofInt_natCast 64 n
  have hs : (x ||| y * 2 ^ s) = x + y * 2 ^ s := by
    have := Nat.two_pow_add_eq_or_of_lt hx y
    rw [Nat.mul_comm y, Nat.or_comm, ← this, Nat.add_comm]
  have hlt : (x ||| y * 2 ^ s) < 2 ^ 64 := Nat.or_lt_two_pow (by simpa using hx6) (by simpa using hy)
  rw [e, w64 _ hy]
  show IntKind.u64.wrap (((BitVec.ofInt 64 (x : Int)) ||| (BitVec.ofInt 64 ((y * 2 ^ s : Nat) : Int))).toNat : Int) = _
  rw [o, o, BitVec.toNat_or, BitVec.toNat_ofNat, BitVec.toNat_ofNat, Nat.mod_eq_of_lt (by simpa using hx6), Nat.mod_eq_of_lt (by simpa using hy), w64 _ (by simpa using hlt), hs]

theorem refFrom_any (N : Nat) (w : World) :
    Calls Tryz.prog 94 #[.agg ((bytesL N).map (Value.int .u8)).toArray] w fun e w' => e = .returned (wordV N) ∧ Below w.heap.size w w' := by
  have hbl : (bytesL N).length = 32 := by simp [bytesL]
  go_enter Tryz.func94, Tryz.ntmps94
  go_wp2
  go_loopw [4] (fun i wr => ∃ k : Nat, k ≤ 32 ∧ i = .int .i64 k ∧ Blk .u8 wr w.heap.size 108 (bytesL N) ∧ Blk .u64 wr (w.heap.size + 1) 43 [0, 0, 0, 0] ∧ Blk .u64 wr (w.heap.size + 1 + 1) 43 (wordL (N % 256 ^ k)) ∧ Below w.heap.size w wr) (fun i _ => 32 - (intOf i).toNat)
  case atStart =>
    exact ⟨0, by omega, rfl, ((Blk.new w _ (bytesL N)).alloc _).alloc _, (Blk.new' _ _ _ [0, 0, 0, 0] (by simp)).alloc _, by rw [show wordL (N % 256 ^ 0) = [0, 0, 0, 0] by simp [wordL, limb]]; exact Blk.new' _ _ _ [0, 0, 0, 0] (by simp), xalloc (xalloc (xalloc (xrefl _) _) _) _⟩
  case round =>
    obtain ⟨k, hk, rfl, hA, hR, hB, hb⟩ := hrel
    by_cases hlt : k < 32
    · have hc1 := hB.cell (k / 8) (by show k / 8 < 4; omega)
      rw [wordL_get] at hc1
      have hf1 := hB.frozen (k / 8)
      have hc2 := hA.cell (31 - k) (by rw [hbl]; omega)
      rw [bytesL_get _ _ (by rw [hbl]; omega), show 31 - (31 - k) = k by omega] at hc2
      have hx := limb_lt (N % 256 ^ k) (k / 8)
      have hx2 := Lib.hid (limb_small N k hlt)
      have hy := byteAt_lt N k
      have hy2 := Lib.hid (byte_small N k)
      have hst := Lib.hid (wordTo_succ N k hlt)
      generalize limb (N % 256 ^ k) (k / 8) = x at hc1 hx hx2 hst
      generalize byteAt N k = y at hc2 hy hy2 hst
      go_wp2
      go_region
      rw [or_byte x y _ hx2.out hx hy2.out]
      go_wp2
      go_roundw
      case rel =>
        refine ⟨k + 1, by omega, by go_num, hA.oth _ (by omega), hR.oth _ (by omega), ?_, xdrew (xsetb hb (by omega) _)⟩
        have := hB.set (k / 8) ((x + y * 2 ^ (8 * (k % 8)) : Nat) : Int)
        rw [hst.out] at this
        exact this
      case measure => simp [intOf]; omega
    · have hk32 : k = 32 := by omega
      subst hk32
      rw [wordL_mod] at hB
      clear hlt
      go_wp2_with (first
        | (refine wpList_load_blk rfl 43 _ rfl (w.heap.size + 1 + 1) rfl .u64 43 (wordL N) _ _ hB Tryz.underlying43 (by kernel_rfl) ?_)
        | (refine wpList_store_blk rfl 43 _ _ rfl (w.heap.size + 1) rfl .u64 43 [0, 0, 0, 0] (wordL N) hR rfl rfl (by kernel_rfl) ?_; intro w2 h2 ho2))
      refine ret_blk rfl (w.heap.size + 1) .u64 43 (wordL N) _ _ rfl h2 Tryz.underlying43 (by kernel_rfl) rfl ⟨rfl, ?_⟩
      exact ho2.below hb hb.size (by rintro i rfl; omega)

end Go.Proofs.YthpallkphamobaaGreatDoor
