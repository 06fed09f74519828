/- The walk of the law CrcSees. -/
import Derived.Test.YtkpbkhbgiijbiaaCrcLaws
import Derived.Test.YtkpbkhbgiijbiaaCrcFlip
namespace Go.Proofs.Ytkpbkhbgiijbiaa
open Go.RowKit

theorem bit_test (n j : Nat) : ((((n : Int) / (2 : Int) ^ j).tmod 2 == 1) : Bool) = decide (n / 2 ^ j % 2 = 1) := by
  have e : (n : Int) / (2 : Int) ^ j = ((n / 2 ^ j : Nat) : Int) := by simp
  rw [e, Int.tmod_eq_emod_of_nonneg (Int.natCast_nonneg _)]
  generalize n / 2 ^ j = m
  by_cases h : m % 2 = 1
  · simp [h]; omega
  · simp [h]; omega

theorem flip_form (y : UInt8) (s : Nat) (hs : s < 8) : bits .xor .u8 (y.toNat : Int) ((2 : Int) ^ s % (256 : Int)) = ((Crc.flipByte y s).toNat : Int) := by
  have h1 : 2 ^ s < 256 := Nat.lt_of_lt_of_le (Nat.pow_lt_pow_right (by omega) hs) (by decide)
  have e : (2 : Int) ^ s % (256 : Int) = ((2 ^ s : Nat) : Int) := by
    have : (2 : Int) ^ s = ((2 ^ s : Nat) : Int) := by simp
    rw [this]
    generalize 2 ^ s = m at *
    omega
  rw [e, u8_xor_nat _ _ y.toNat_lt h1, Crc.flipByte_nat y s hs]

theorem u8s_set (ys : List UInt8) (i : Nat) (b : UInt8) : (u8s ys).set i (.int .u8 (b.toNat : Int)) = u8s (ys.set i b) := by
  simp [u8s, List.map_set]

theorem crcSees_early (W : World) (F : Nat → Prop) (v : Value) (bs : List UInt8) (hv : Bytes F W v bs) (x : Int) (c : BitVec 32) (h : 3000 < bs.length ∨ bs.length < 5 ∨ c.toNat = 0) :
    Calls Try.prog 5 #[v, .int .i64 x, .int .u32 (c.toNat : Int)] W fun e w' => e = .returned (.bool true) ∧ Below W.heap.size W w' := by
  obtain ⟨a, cap, rfl, _⟩ := hv.cells
  clear hv
  by_cases h1 : 3000 < bs.length
  · go_enter Try.func5, Try.ntmps5
    go_wp2_with fail
    refine Calls.mono (lives2_any _) ?_
    rintro e w1 ⟨rfl, hb⟩
    have HW := Lib.hid hb; clear hb
    go_wp2_with fail
    go_ret
    exact ⟨rfl, HW.out⟩
  · by_cases h2 : bs.length < 5
    · go_enter Try.func5, Try.ntmps5
      go_wp2_with fail
      refine Calls.mono (lives2_any _) ?_
      rintro e w1 ⟨rfl, hb⟩
      have HW := Lib.hid hb; clear hb
      go_wp2_with fail
      go_ret
      exact ⟨rfl, HW.out⟩
    · have h3 : c.toNat = 0 := by omega
      rw [h3]
      clear h h3
      go_enter Try.func5, Try.ntmps5
      go_wp2_with fail
      refine Calls.mono (lives2_any _) ?_
      rintro e w1 ⟨rfl, hb⟩
      have HW := Lib.hid hb; clear hb
      go_wp2_with fail
      go_ret
      exact ⟨rfl, HW.out⟩

set_option maxRecDepth 100000 in
set_option maxHeartbeats 1000000 in
theorem crcSees_main (W : World) (F : Nat → Prop) (v : Value) (bs : List UInt8) (hv : Bytes F W v bs) (x : Int) (hx0 : -9223372036854775808 ≤ x) (hx1 : x ≤ 9223372036854775807) (c : BitVec 32) (h1 : bs.length ≤ 3000) (h2 : 5 ≤ bs.length) (h3 : c.toNat ≠ 0) :
    Calls Try.prog 5 #[v, .int .i64 x, .int .u32 (c.toNat : Int)] W fun e w' => e = .returned (.bool true) ∧ Below W.heap.size W w' := by
  obtain ⟨a, cap, rfl, _⟩ := hv.cells
  have HV := Lib.hid hv; clear hv
  have d1 : decide ((3000 : Int) < (bs.length : Int)) = false := by simp; omega
  have d2 : decide ((bs.length : Int) < 5) = false := by simp; omega
  have d3 : ((c.toNat : Int) == 0) = false := by simp; omega
  go_enter Try.func5, Try.ntmps5
  go_wp2_with fail
  refine Calls.mono (lives2_any _) ?_
  rintro e w1 ⟨rfl, hb⟩
  have HW := Lib.hid hb
  have HV1 : Hid (Bytes F w1 (.slice a bs.length cap) bs) := HV.out.below hb
  clear hb HV
  go_wp2_with fail
  clear d1 d2 d3
  refine Calls.mono (own_any F _ bs _ HV1.out (by omega)) ?_
  rintro e w2 ⟨xa, rfl, ho, hb⟩
  have HW2 := Lib.hid (HW.out.trans (hb.mono HW.out.size))
  have HV2 : Hid (Bytes F w2 (.slice a bs.length cap) bs) := HV1.out.below hb
  have HB1 := Lib.hid hb
  clear hb
  have hos : ∃ g cap', xa = .slice (some ⟨g, 0, none⟩) bs.length cap' := by
    rcases ho.2 with ⟨_, h⟩ | ⟨g, cap', _, h, _⟩
    · omega
    · exact ⟨g, cap', h⟩
  obtain ⟨g, cap', rfl⟩ := hos
  have HO := Lib.hid ho
  clear ho
  go_wp2_with fail
  rw [show (((bs.length : Int) - 4) * 8) = (((bs.length - 4) * 8 : Nat) : Int) by omega]
  refine Calls.mono (pick_any x ((bs.length - 4) * 8) _ hx0 hx1 (by omega) (by omega)) ?_
  rintro e w' ⟨k, hk, rfl, rfl⟩
  have hk32 : k + 32 ≤ 8 * bs.length := by omega
  go_wp2_with fail
  refine wp_gen fun w3 hw3 => ?_
  have HO3 : Hid (Owned w1.heap.size w3 (.slice (some ⟨g, 0, none⟩) bs.length cap') (Crc.flips bs k c 0)) := by rw [hw3]; exact HO.out
  have HW3 : Hid (Below w1.heap.size w1 w3) := by rw [hw3]; exact HB1.out
  clear hw3 HO HB1 HW2
  go_loopw [9] (fun i wr => ∃ j : Nat, j ≤ 32 ∧ i = .int .i64 j ∧ Hid (Owned w1.heap.size wr (.slice (some ⟨g, 0, none⟩) bs.length cap') (Crc.flips bs k c j)) ∧ Hid (Below w1.heap.size w1 wr)) (fun i _ => 32 - (intOf i).toNat)
  case atStart => exact ⟨0, by omega, rfl, HO3, HW3⟩
  case round =>
    clear HO3 HW3
    obtain ⟨j, hj, rfl, HO3, HW3⟩ := hrel
    by_cases hlt : j < 32
    · have hfl := Lib.hid (Crc.flips_length bs k c j)
      have HF : Hid (Crc.flips bs k c (j + 1) = if c.getLsbD j then Crc.flipBit (Crc.flips bs k c j) (k + j) else Crc.flips bs k c j) := rfl
      have hbit : c.getLsbD j = decide (c.toNat / 2 ^ j % 2 = 1) := by rw [← BitVec.testBit_toNat, Nat.testBit_eq_decide_div_mod_eq]
      generalize Crc.flips bs k c j = ys at *
      have hq : (k + j) / 8 < ys.length := by rw [hfl.out]; omega
      have hOw : wr.ownsRow w1.heap.size 5 1 (.slice (some ⟨g, 0, none⟩) ys.length cap') ys.length (u8s ys) := by
        have := HO3.out; unfold Owned at this; rw [hfl.out] at this ⊢; exact this
      have hcell : wr.cell? ⟨g, (k + j) / 8, none⟩ = some (.int .u8 ((ys.getD ((k + j) / 8) 0).toNat : Int)) := by
        rw [hOw.cellAt ((k + j) / 8) (by omega), u8s_get _ _ hq]
      have hfr : wr.frozen? ⟨g, (k + j) / 8, none⟩ = false := hOw.frozenAt _
      have HOw := Lib.hid hOw
      clear hOw
      generalize hy : ys.getD ((k + j) / 8) 0 = y at *
      have HY := Lib.hid hy
      clear hy
      have HB := Lib.hid hbit
      clear hbit
      have hq2 : (k + j) / 8 < bs.length := by rw [← hfl.out]; exact hq
      clear hq
      go_wp2_with fail
      · have ht : (((c.toNat : Int) / (2 : Int) ^ j).tmod 2 == 1) = true := by assumption
        rw [bit_test] at ht
        go_roundw
        case rel =>
          refine ⟨j + 1, by omega, by go_num, ?_, HW3.out.setCell ?_ _⟩
          · rw [HF.out, if_pos (by rw [HB.out]; exact ht), flip_form y _ (by omega)]
            have hst := HOw.out.stored ((k + j) / 8) (.int .u8 ((Crc.flipByte y ((k + j) % 8)).toNat : Int))
            unfold Owned Crc.flipBit
            rw [u8s_set] at hst
            rw [HY.out, List.length_set, hfl.out]
            rw [hfl.out] at hst
            exact hst.1
          · exact (World.ownsRow.lt HOw.out g rfl).1
        case measure => simp [intOf]; omega
      · have ht : (((c.toNat : Int) / (2 : Int) ^ j).tmod 2 == 1) = false := by assumption
        rw [bit_test] at ht
        go_roundw
        case rel => exact ⟨j + 1, by omega, by go_num, by rw [HF.out, if_neg (by rw [HB.out, ht]; simp)]; exact HO3, HW3⟩
        case measure => simp [intOf]; omega
    · obtain rfl : j = 32 := by omega
      rw [show ((32 : Nat) : Int) = (32 : Int) from rfl]
      have hfl := Lib.hid (Crc.flips_length bs k c 32)
      have hsee := Lib.hid (Crc.flips_seen bs k c hk32 (by intro h; apply h3; rw [h]; rfl))
      generalize Crc.flips bs k c 32 = ys at *
      have HBy : Hid (Bytes (fun _ => True) wr (.slice (some ⟨g, 0, none⟩) bs.length cap') ys) := HO3.out.bytes.mono (fun _ _ _ => trivial)
      have HVr : Hid (Bytes F wr (.slice a bs.length cap) bs) := HV1.out.below HW3.out
      have HWr : Hid (Below W.heap.size W wr) := HW.out.trans (HW3.out.mono HW.out.size)
      clear HO3 HW3 HV1 HW hlt hj hk32 hk HV2
      go_wp2_with fail
      refine Calls.mono (sum_any _ _ ys _ HBy.out) ?_
      rintro e w4 ⟨rfl, hb⟩
      have HV4 : Hid (Bytes F w4 (.slice a bs.length cap) bs) := HVr.out.below hb
      have HW4 : Hid (Below W.heap.size W w4) := HWr.out.trans (hb.mono HWr.out.size)
      clear hb HBy HVr HWr
      go_wp2_with fail
      refine Calls.mono (own_any F _ bs _ HV4.out (by omega)) ?_
      rintro e w5 ⟨xb, rfl, ho, hb⟩
      have HO5 := Lib.hid ho
      have HW5 : Hid (Below W.heap.size W w5) := HW4.out.trans (hb.mono HW4.out.size)
      clear ho hb HV4 HW4
      go_wp2_with fail
      refine Calls.mono (sum_any _ _ bs _ HO5.out.bytes) ?_
      rintro e w6 ⟨rfl, hb⟩
      have HW6 : Hid (Below W.heap.size W w6) := HW5.out.trans (hb.mono HW5.out.size)
      clear hb HO5 HW5
      have hne : (((Crc.update 0#32 ys).toNat : Int) != ((Crc.update 0#32 bs).toNat : Int)) = true := by
        have := hsee.out
        rw [bne_iff_ne]
        intro h
        exact this (BitVec.eq_of_toNat_eq (by omega))
      go_wp2_with fail
      go_ret
      exact ⟨rfl, HW6.out⟩
theorem crcSees_any (W : World) (F : Nat → Prop) (v : Value) (bs : List UInt8) (hv : Bytes F W v bs) (x : Int) (hx0 : -9223372036854775808 ≤ x) (hx1 : x ≤ 9223372036854775807) (c : BitVec 32) :
    Calls Try.prog 5 #[v, .int .i64 x, .int .u32 (c.toNat : Int)] W fun e w' => e = .returned (.bool true) ∧ Below W.heap.size W w' := by
  by_cases h : 3000 < bs.length ∨ bs.length < 5 ∨ c.toNat = 0
  · exact crcSees_early W F v bs hv x c h
  · exact crcSees_main W F v bs hv x hx0 hx1 c (by omega) (by omega) (by omega)
end Go.Proofs.Ytkpbkhbgiijbiaa
