/- The walk of the law CrcJoins. -/
import Derived.Test.YtkpbkhbgiijbiaaCrcLaws
import Derived.Deep.RegionWith
namespace Go.Proofs.Ytkpbkhbgiijbiaa
open Go.RowKit

theorem unmask_mask (x : BitVec 32) : unmaskW (maskW x) = x := by
  unfold unmaskW maskW
  rw [BitVec.add_sub_cancel]
  unfold rotL rotR
  apply BitVec.eq_of_getLsbD_eq
  intro i hi
  simp only [BitVec.getLsbD_or, BitVec.getLsbD_shiftLeft, BitVec.getLsbD_ushiftRight, hi, decide_true, Bool.true_and]
  by_cases h1 : i < 15
  · have h2 : 17 + i < 32 := by omega
    have h3 : ¬ (17 + i < 17) := by omega
    have h4 : 17 + i - 17 = i := by omega
    have h5 : ¬ 15 + (17 + i) < 32 := by omega
    simp [h1, h2, h4, BitVec.getLsbD_of_ge x (15 + (17 + i)) (by omega)]
  · have h2 : i - 15 < 17 := by omega
    have h3 : 15 + (i - 15) = i := by omega
    have h4 : ¬ 17 + i < 32 := by omega
    simp [h1, h2, h3, h4, BitVec.getLsbD_of_ge x (15 + (17 + i)) (by omega)]

set_option maxRecDepth 100000 in
set_option maxHeartbeats 1000000 in
theorem crcJoins_any (W : World) (F : Nat → Prop) (v : Value) (bs : List UInt8) (hv : Bytes F W v bs) (x : Int) (hx0 : -9223372036854775808 ≤ x) (hx1 : x ≤ 9223372036854775807) :
    Calls Try.prog 4 #[v, .int .i64 x] W fun e w' => e = .returned (.bool true) ∧ Below W.heap.size W w' := by
  have HV := Lib.hid hv; clear hv
  obtain ⟨a, cap, rfl, _⟩ := HV.out.cells
  by_cases hlen : 3000 < bs.length
  · go_enter Try.func4, Try.ntmps4
    go_wp2_with fail
    refine Calls.mono (lives2_any _) ?_
    rintro e w1 ⟨rfl, hb⟩
    have HW := Lib.hid hb; clear hb
    go_wp2_with fail
    go_ret
    exact ⟨rfl, HW.out⟩
  · go_enter Try.func4, Try.ntmps4
    go_wp2_with fail
    refine Calls.mono (lives2_any _) ?_
    rintro e w1 ⟨rfl, hb⟩
    have HW := Lib.hid hb; clear hb
    go_wp2_with fail
    rw [show ((bs.length : Int) + 1) = ((bs.length + 1 : Nat) : Int) by omega]
    refine Calls.mono (pick_any x (bs.length + 1) _ hx0 hx1 (by omega) (by omega)) ?_
    rintro e w' ⟨k, hk, rfl, rfl⟩
    have hkl : k ≤ bs.length := by omega
    clear hk
    have HV1 : Hid (Bytes F w1 (.slice a bs.length cap) bs) := HV.out.below HW.out
    obtain ⟨va, ha, hba⟩ := HV1.out.slice_h k hkl
    obtain ⟨vb, hb, hbb⟩ := HV1.out.slice_l k hkl
    have HA := Lib.hid hba
    have HB := Lib.hid hbb
    clear hba hbb
    go_wp2_with fail
    go_region_with (first
      | (go_at_call_of 14 va; go_must (refine Calls.mono (own_any F va (bs.take k) _ ?_ ?_) ?_; exact HA.out.keep (fun _ _ _ => rfl); (simp; omega); rintro e w2 ⟨xa, rfl, ho, hb⟩; have HO := Lib.hid ho; have HW2 := Lib.hid (below_of_drew hb); clear ho hb))
      | (go_at_call_of 13 xa; refine Calls.mono (sum_any _ xa (bs.take k) _ HO.out.bytes) ?_; rintro e w3 ⟨rfl, hb⟩; have HW3 := Lib.hid (HW2.out.trans (hb.mono HW2.out.size)); clear hb)
      | (go_at_call_of 14 vb; refine Calls.mono (own_any F vb (bs.drop k) _ ?_ ?_) ?_; exact HB.out.below HW3.out; (simp; omega); rintro e w4 ⟨xb, rfl, ho, hb⟩; have HO2 := Lib.hid ho; have HW4 := Lib.hid (HW3.out.trans (hb.mono HW3.out.size)); clear ho hb)
      | (go_at_call_of 13 xb; refine Calls.mono (sum_any _ xb (bs.drop k) _ HO2.out.bytes) ?_; rintro e w5 ⟨rfl, hb⟩; have HW5 := Lib.hid (HW4.out.trans (hb.mono HW4.out.size)); clear hb))
    have e1 := Lib.hid (Crc.join_sum (bs.take k) (bs.drop k))
    have e2 := Lib.hid (Crc.update_append 0#32 (bs.take k) (bs.drop k))
    rw [List.take_append_drop] at e1 e2
    have hl2 : (bs.drop k).length = bs.length - k := List.length_drop
    rw [hl2] at e1
    have HV5 : Hid (Bytes F w5 (.slice a bs.length cap) bs) := HV1.out.below HW5.out
    have HW6 : Hid (Below W.heap.size W w5) := HW.out.trans (HW5.out.mono HW.out.size)
    have HC : Hid (Bytes F w5 vb (bs.drop k)) := HB.out.below HW5.out
    clear HW HW2 HW3 HW4 HW5 HV1 HA HB HO HO2 HV hl2
    generalize Crc.update 0#32 (bs.take k) = s1 at *
    generalize Crc.update 0#32 (bs.drop k) = s2 at *
    go_wp2_with fail
    rw [show ((bs.length : Int) - (k : Int)) = ((bs.length - k : Nat) : Int) by omega]
    refine Calls.mono (join_yes s1 s2 (bs.length - k) _ (by omega)) ?_
    rintro e w6 ⟨rfl, hb⟩
    rw [e1.out]
    have HW7 := Lib.hid (HW6.out.trans (hb.mono HW6.out.size))
    have HV6 : Hid (Bytes F w6 (.slice a bs.length cap) bs) := HV5.out.below hb
    have HC6 : Hid (Bytes F w6 vb (bs.drop k)) := HC.out.below hb
    clear e1 hb HW6 HV5 HC
    go_wp2_with fail
    refine Calls.mono (own_any F _ bs _ HV6.out (by omega)) ?_
    rintro e w7 ⟨xc, rfl, ho, hb⟩
    have HO7 := Lib.hid ho
    have HW8 := Lib.hid (HW7.out.trans (hb.mono HW7.out.size))
    have HC7 : Hid (Bytes F w7 vb (bs.drop k)) := HC6.out.below hb
    clear ho hb HW7 HC6 HV6
    go_wp2_with fail
    refine Calls.mono (sum_any _ xc bs _ HO7.out.bytes) ?_
    rintro e w8 ⟨rfl, hb⟩
    have HW9 := Lib.hid (HW8.out.trans (hb.mono HW8.out.size))
    have HC8 : Hid (Bytes F w8 vb (bs.drop k)) := HC7.out.below hb
    clear hb HW8 HC7 HO7
    go_wp2_with fail
    refine Calls.mono (own_any F _ (bs.drop k) _ HC8.out (by simp; omega)) ?_
    rintro e w9 ⟨xd, rfl, ho, hb⟩
    have HO9 := Lib.hid ho
    have HW10 := Lib.hid (HW9.out.trans (hb.mono HW9.out.size))
    clear ho hb HW9 HC8
    go_wp2_with fail
    refine Calls.mono (upd_any _ s1 xd (bs.drop k) _ HO9.out.bytes) ?_
    rintro e w10 ⟨rfl, hb⟩
    rw [e2.out]
    have HW11 := Lib.hid (HW10.out.trans (hb.mono HW10.out.size))
    clear hb HW10 HO9
    go_wp2_with fail
    refine Calls.mono (mask_any _ _) ?_
    rintro e w11 ⟨rfl, rfl⟩
    go_wp2_with fail
    refine Calls.mono (unmask_any _ _) ?_
    rintro e w12 ⟨rfl, rfl⟩
    rw [unmask_mask]
    go_wp2_with fail
    go_ret
    exact ⟨rfl, HW11.out⟩
end Go.Proofs.Ytkpbkhbgiijbiaa
