/- Texts of this claim, merged; no condition. -/
import Derived.DataReads
import Derived.ChangeArms
import Derived.Test.YthpallkphamobaaGreatDoorJ32
import Derived.Test.YthpallkphamobaaGreatDoorJ26
import Derived.Test.YthpallkphamobaaGreatDoorJ29
import Derived.Test.YthpallkphamobaaGreatDoorJ09
set_option linter.all false
namespace Go.Proofs.YthpallkphamobaaGreatDoor
open Go.RowKit Go.Shelf

theorem check_len {p : PolN} (h : checkF p = 0) : p.clears.length ≤ 64 ∧ p.rels.length ≤ 64 := by
  unfold checkF at h
  by_cases h1 : 64 < p.clears.length ∨ 64 < p.rels.length
  · rw [if_pos h1] at h; cases h
  · omega
theorem parseQ_len (s : List UInt8) : (parseQ s).clears.length ≤ 64 ∧ (parseQ s).rels.length ≤ 64 := by
  cases h : parseF s with
  | error n => rw [(parse_bad h).2]; simp [noneP]
  | ok p => rw [(parse_ok h).2]; exact check_len (text_parse h).2.1
set_option maxRecDepth 100000 in
set_option maxHeartbeats 8000000 in
theorem policyReads_go (s : List UInt8) (w : World) (hs63 : s.length ≤ 9223372036854775807) (hT : TabP w) : Calls Tryz.prog 5 #[.string ⟨s.toArray⟩] w (Yes w) := by
  have hTt : Hid (∀ W, Below w.heap.size w W → TabP W) := Lib.hid fun W h => hT.below h
  have hwk := Lib.hid fun W h => worksP_any W (hTt.out W h)
  have hb0 := Lib.hid (xrefl w)
  have hsz : (⟨s.toArray⟩ : ByteArray).size = s.length := by show s.toArray.size = _; simp
  clear hT
  by_cases hl : 1500 < s.length
  · have hlI : (1500 : Int) < s.length := by omega
    go_enter Tryz.func5, Tryz.ntmps5
    go_wp2_with (first
      | (go_at_call 10; refine (hwk.out _ hb0.out).mono ?_; rintro e w7 ⟨rfl, hb7⟩; replace hb7 := Lib.hid (xtrans hb0.out hb7)))
    go_ret
    exact ⟨rfl, hb7.out⟩
  · have hlI : ¬ (1500 : Int) < s.length := by omega
    obtain ⟨hq1, hq2⟩ := parseQ_len s
    have hpa := Lib.hid fun W (h : Below w.heap.size w W) => parseP_any s W (hTt.out W h) hs63
    have hrp := Lib.hid fun W (h : Below w.heap.size w W) => refParseP_any s W hs63
    have hsm := Lib.hid fun (a b a2 b2 : Option Addr) (c d c2 d2 : Nat) W (hp : PolAt W (parseQ s) a c b d) (hq : PolAt W (parseQ s) a2 c2 b2 d2) => refSame_eq (parseQ s) a b a2 b2 c d c2 d2 W hp hq (by omega) (by omega)
    have htx := Lib.hid fun (a b : Option Addr) (c d : Nat) W (h : Below w.heap.size w W) (hp : PolAt W (parseQ s) a c b d) => textP_any (parseQ s) a b c d W hp (hTt.out W h) (by omega) (by omega)
    unfold PaPost at hpa hrp
    have hcase : (parseN s ≠ 0) ∨ (parseN s = 0 ∧ checkF (parseQ s) = 0 ∧ textG (parseQ s) = s) := by
      cases h : parseF s with
      | error n =>
        rw [(parse_bad h).1]
        have : n = 3 ∨ n = 190 ∨ n = 2 := by
          unfold parseF at h
          split at h
          · cases h; exact .inl rfl
          · split at h
            · cases h; exact .inr (.inl rfl)
            · split at h
              · cases h; exact .inr (.inl rfl)
              · split at h
                · cases h
                · cases h
                  rename_i p _ _ hc
                  unfold checkF at hc ⊢
                  split at hc
                  · rename_i h1; rw [if_pos h1]; exact .inl rfl
                  · rename_i h1; rw [if_neg h1]
                    split at hc
                    · exact absurd rfl hc
                    · rename_i h2; rw [if_neg h2]; exact .inr (.inr rfl)
        exact .inl (by omega)
      | ok p =>
        rw [(parse_ok h).1, (parse_ok h).2]
        obtain ⟨-, h2, h3⟩ := text_parse h
        exact .inr ⟨rfl, h2, by rw [textG_ok h2, h3]⟩
    unfold polV at *
    unfold strL at htx
    generalize parseQ s = q at *
    generalize parseN s = n at *
    rcases hcase with h0 | ⟨rfl, h0, h1⟩
    · have h0B : ((n : Int) == 0) = false := by rw [beq_eq_false_iff_ne]; omega
      go_enter Tryz.func5, Tryz.ntmps5
      go_wp2_with (first
        | (go_at_call 29; refine (hpa.out _ hb0.out).mono ?_; rintro e w1 ⟨⟨a1, c1, b1, d1, rfl, hp1⟩, hb1⟩; have hb01 := Lib.hid (xtrans hb0.out hb1); clear hb1)
        | (refine wpList_store_blkG rfl 27 _ _ rfl w1.heap.size rfl 27 [.int .u64 0, .slice none 0 0, .slice none 0 0] [labV q.dflt, .slice a1 q.clears.length c1, .slice b1 q.rels.length d1] (BlkG.new w1 _ _) rfl rfl (by kernel_rfl) (by rfl) ?_; intro w2 hBw2 how2; have hbsw2 := how2.below (xalloc (xrefl w1) _) (xalloc (xrefl w1) (.cells [.int .u64 0, .slice none 0 0, .slice none 0 0].toArray 27)).size (by rintro k rfl; exact Nat.le_refl _); have hbw2 := Lib.hid (xtrans hb01.out hbsw2); have hp2 := Lib.hid (hp1.below hbsw2); replace hBw2 := Lib.hid hBw2; clear how2 hbsw2 hp1)
        | (go_at_call 30; refine (hrp.out _ hbw2.out).mono ?_; rintro e w3 ⟨⟨a3, c3, b3, d3, rfl, hq3⟩, hb3⟩; have hb03 := Lib.hid (xtrans hbw2.out hb3); have hp3 := Lib.hid (hp2.out.below hb3); have hB3 := Lib.hid (hBw2.out.below hb3); clear hb3)
        | (refine wpList_store_blkG rfl 27 _ _ rfl w3.heap.size rfl 27 [.int .u64 0, .slice none 0 0, .slice none 0 0] [labV q.dflt, .slice a3 q.clears.length c3, .slice b3 q.rels.length d3] (BlkG.new w3 _ _) rfl rfl (by kernel_rfl) (by rfl) ?_; intro w4 hBw4 how4; have hbsw4 := how4.below (xalloc (xrefl w3) _) (xalloc (xrefl w3) (.cells [.int .u64 0, .slice none 0 0, .slice none 0 0].toArray 27)).size (by rintro k rfl; exact Nat.le_refl _); have hbw4 := Lib.hid (xtrans hb03.out hbsw4); have hp4 := Lib.hid (hp3.out.below hbsw4); have hq4 := Lib.hid (hq3.below hbsw4); have hB4 := Lib.hid (hB3.out.below hbsw4); replace hBw4 := Lib.hid hBw4; clear how4 hbsw4 hq3)
        | (refine wpList_load_mid rfl 27 _ rfl w1.heap.size 0 rfl [labV q.dflt, .slice a1 q.clears.length c1, .slice b1 q.rels.length d1] _ (BlkG.range hB4.out) Tryz.underlying27 rfl (by kernel_rfl) ?_)
        | (refine wpList_load_mid rfl 27 _ rfl w3.heap.size 0 rfl [labV q.dflt, .slice a3 q.clears.length c3, .slice b3 q.rels.length d3] _ (BlkG.range hBw4.out) Tryz.underlying27 rfl (by kernel_rfl) ?_)
        | (go_at_call 31; refine (hsm.out _ _ _ _ _ _ _ _ _ hp4.out hq4.out).mono ?_; rintro e w5 ⟨rfl, hb5⟩; have hb05 := Lib.hid (xtrans hbw4.out hb5); have hp5 := Lib.hid (hp4.out.below hb5); have hB5 := Lib.hid (hB4.out.below hb5); clear hb5)
        | (go_at_call 13; refine (num_anyP _ _).mono ?_; rintro e w0 ⟨rfl, rfl⟩)
        | (go_at_call 10; refine (hwk.out _ hb05.out).mono ?_; rintro e w7 ⟨rfl, hb7⟩; replace hb7 := Lib.hid (xtrans hb05.out hb7)))
      go_ret
      exact ⟨rfl, hb7.out⟩
    · rw [h0, h1] at htx
      go_enter Tryz.func5, Tryz.ntmps5
      go_wp2_with (first
        | (go_at_call 29; refine (hpa.out _ hb0.out).mono ?_; rintro e w1 ⟨⟨a1, c1, b1, d1, rfl, hp1⟩, hb1⟩; have hb01 := Lib.hid (xtrans hb0.out hb1); clear hb1)
        | (refine wpList_store_blkG rfl 27 _ _ rfl w1.heap.size rfl 27 [.int .u64 0, .slice none 0 0, .slice none 0 0] [labV q.dflt, .slice a1 q.clears.length c1, .slice b1 q.rels.length d1] (BlkG.new w1 _ _) rfl rfl (by kernel_rfl) (by rfl) ?_; intro w2 hBw2 how2; have hbsw2 := how2.below (xalloc (xrefl w1) _) (xalloc (xrefl w1) (.cells [.int .u64 0, .slice none 0 0, .slice none 0 0].toArray 27)).size (by rintro k rfl; exact Nat.le_refl _); have hbw2 := Lib.hid (xtrans hb01.out hbsw2); have hp2 := Lib.hid (hp1.below hbsw2); replace hBw2 := Lib.hid hBw2; clear how2 hbsw2 hp1)
        | (go_at_call 30; refine (hrp.out _ hbw2.out).mono ?_; rintro e w3 ⟨⟨a3, c3, b3, d3, rfl, hq3⟩, hb3⟩; have hb03 := Lib.hid (xtrans hbw2.out hb3); have hp3 := Lib.hid (hp2.out.below hb3); have hB3 := Lib.hid (hBw2.out.below hb3); clear hb3)
        | (refine wpList_store_blkG rfl 27 _ _ rfl w3.heap.size rfl 27 [.int .u64 0, .slice none 0 0, .slice none 0 0] [labV q.dflt, .slice a3 q.clears.length c3, .slice b3 q.rels.length d3] (BlkG.new w3 _ _) rfl rfl (by kernel_rfl) (by rfl) ?_; intro w4 hBw4 how4; have hbsw4 := how4.below (xalloc (xrefl w3) _) (xalloc (xrefl w3) (.cells [.int .u64 0, .slice none 0 0, .slice none 0 0].toArray 27)).size (by rintro k rfl; exact Nat.le_refl _); have hbw4 := Lib.hid (xtrans hb03.out hbsw4); have hp4 := Lib.hid (hp3.out.below hbsw4); have hq4 := Lib.hid (hq3.below hbsw4); have hB4 := Lib.hid (hB3.out.below hbsw4); replace hBw4 := Lib.hid hBw4; clear how4 hbsw4 hq3)
        | (refine wpList_load_mid rfl 27 _ rfl w1.heap.size 0 rfl [labV q.dflt, .slice a1 q.clears.length c1, .slice b1 q.rels.length d1] _ (BlkG.range hB4.out) Tryz.underlying27 rfl (by kernel_rfl) ?_)
        | (refine wpList_load_mid rfl 27 _ rfl w3.heap.size 0 rfl [labV q.dflt, .slice a3 q.clears.length c3, .slice b3 q.rels.length d3] _ (BlkG.range hBw4.out) Tryz.underlying27 rfl (by kernel_rfl) ?_)
        | (go_at_call 31; refine (hsm.out _ _ _ _ _ _ _ _ _ hp4.out hq4.out).mono ?_; rintro e w5 ⟨rfl, hb5⟩; have hb05 := Lib.hid (xtrans hbw4.out hb5); have hp5 := Lib.hid (hp4.out.below hb5); have hB5 := Lib.hid (hB4.out.below hb5); clear hb5)
        | (go_at_call 13; refine (num_anyP _ _).mono ?_; rintro e w0 ⟨rfl, rfl⟩)
        | (refine wpList_load_mid rfl 27 _ rfl w1.heap.size 0 rfl [labV q.dflt, .slice a1 q.clears.length c1, .slice b1 q.rels.length d1] _ (BlkG.range hB5.out) Tryz.underlying27 rfl (by kernel_rfl) ?_)
        | (go_at_call 32; refine (htx.out _ _ _ _ _ hb05.out hp5.out).mono ?_; rintro e w6 ⟨rfl, hb6⟩; replace hb6 := Lib.hid (xtrans hb05.out hb6))
        | (go_at_call 10; refine (hwk.out _ hb6.out).mono ?_; rintro e w7 ⟨rfl, hb7⟩; replace hb7 := Lib.hid (xtrans hb6.out hb7)))
      go_ret
      exact ⟨rfl, hb7.out⟩
theorem policyReads_walk (s0 : ByteArray) (w : World) (hs : s0.size ≤ 9223372036854775807) (hT : TabP w) : Calls Tryz.prog 5 #[.string s0] w (Yes w) := by
  have e : s0 = ⟨s0.data.toList.toArray⟩ := by apply ByteArray.ext; simp
  rw [e]
  exact policyReads_go s0.data.toList w (by simpa using hs) hT
end Go.Proofs.YthpallkphamobaaGreatDoor
