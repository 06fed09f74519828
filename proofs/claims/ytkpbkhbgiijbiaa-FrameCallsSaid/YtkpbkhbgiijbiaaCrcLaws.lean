/- The statements of chapter 2: walks of lives and CrcNames. -/
import Derived.Test.YtkpbkhbgiijbiaaCrcJoin2
namespace Go.Proofs.Ytkpbkhbgiijbiaa
open Go.RowKit

theorem e1234 : Crc.update 0#32 [49, 50, 51, 52] = 0xf63af4ee#32 := by decide +kernel
theorem e56789 : Crc.update 0#32 [53, 54, 55, 56, 57] = 0x83b565d8#32 := by decide +kernel
theorem e19 : Crc.update 0#32 [49, 50, 51, 52, 53, 54, 55, 56, 57] = 0xe3069283#32 := by decide +kernel
theorem e0 : Crc.update 0#32 [] = 0#32 := by decide +kernel
theorem e32 : Crc.update 0#32 (List.replicate 32 0) = 0x8a9136aa#32 := by decide +kernel
theorem ejoin : Crc.join 0xf63af4ee#32 0x83b565d8#32 5 = 0xe3069283#32 := by decide +kernel

theorem make32 (w : World) : (Instr.makeSlice 27 (.int .i64 32) (.int .i64 32)).run Try.prog w = .ok (.slice (some ⟨w.heap.size, 0, none⟩) 32 32) (w.alloc (.cells (Array.replicate 32 (.int .u8 0)) 5)) := by kernel_rfl

set_option maxRecDepth 100000 in
theorem lives2_any (w : World) :
    Calls Try.prog 11 #[] w fun e w' => e = .returned (.bool true) ∧ Below w.heap.size w w' := by
  have kc := conv_const
  have hmk := make32
  go_enter Try.func11, Try.ntmps11
  go_wp2_with fail
  refine Calls.mono (sum_any _ _ [49, 50, 51, 52] _ (Bytes.const w _ _ _ _ _ rfl rfl (by omega))) ?_
  rintro e w1 ⟨rfl, hb⟩
  rw [e1234]
  have HW : Hid (Below w.heap.size w w1) := ((Below.refl _ _).alloc (Nat.le_refl _) _).trans (hb.mono (by simp))
  clear hb
  go_wp2_with fail
  refine Calls.mono (sum_any _ _ [53, 54, 55, 56, 57] _ (Bytes.const w1 _ _ _ _ _ rfl rfl (by omega))) ?_
  rintro e w2 ⟨rfl, hb⟩
  rw [e56789]
  have HW2 : Hid (Below w.heap.size w w2) := (HW.out.alloc HW.out.size _).trans (hb.mono (by have := HW.out.size; simp; omega))
  clear hb HW
  go_wp2_with fail
  refine Calls.mono (join_yes 0xf63af4ee#32 0x83b565d8#32 5 _ (by omega)) ?_
  rintro e w3 ⟨rfl, hb⟩
  rw [ejoin]
  have HW3 : Hid (Below w.heap.size w w3) := HW2.out.trans (hb.mono HW2.out.size)
  clear hb HW2
  go_wp2_with fail
  refine Calls.mono (sum_any _ _ [49, 50, 51, 52, 53, 54, 55, 56, 57] _ (Bytes.const w3 _ _ _ _ _ rfl rfl (by omega))) ?_
  rintro e w4 ⟨rfl, hb⟩
  rw [e19]
  have HW4 : Hid (Below w.heap.size w w4) := (HW3.out.alloc HW3.out.size _).trans (hb.mono (by have := HW3.out.size; simp; omega))
  clear hb HW3
  go_wp2_with fail
  refine Calls.mono (sum_any (fun _ => True) _ [] _ (Bytes.nil _ _)) ?_
  rintro e w5 ⟨rfl, hb⟩
  rw [e0]
  have HW5 : Hid (Below w.heap.size w w5) := HW4.out.trans (hb.mono HW4.out.size)
  clear hb HW4
  go_wp2_with fail
  refine Calls.mono (sum_any _ _ (List.replicate 32 0) _ (Bytes.const w5 _ _ _ _ _ rfl rfl (by omega))) ?_
  rintro e w6 ⟨rfl, hb⟩
  rw [e32]
  have HW6 : Hid (Below w.heap.size w w6) := (HW5.out.alloc HW5.out.size _).trans (hb.mono (by have := HW5.out.size; simp; omega))
  clear hb HW5
  go_wp2_with fail
  refine Calls.mono (mask_any 0#32 _) ?_
  rintro e w7 ⟨rfl, rfl⟩
  rw [show maskW 0#32 = 0xA282EAD8#32 by decide]
  go_wp2_with fail
  refine Calls.mono (unmask_any 0xA282EAD8#32 _) ?_
  rintro e w8 ⟨rfl, rfl⟩
  rw [show unmaskW 0xA282EAD8#32 = 0#32 by decide]
  go_wp2_with fail
  go_ret
  exact ⟨rfl, HW6.out⟩

set_option maxRecDepth 100000 in
theorem crcNames_any (w : World) :
    Calls Try.prog 3 #[] w fun e w' => e = .returned (.bool true) ∧ Below w.heap.size w w' := by
  go_enter Try.func3, Try.ntmps3
  go_wp2_with fail
  refine Calls.mono (join_no 1#32 2#32 (-1) _ (by omega)) ?_
  rintro e w1 ⟨rfl, rfl⟩
  go_wp2_with fail
  refine Calls.mono (join_no 1#32 2#32 1099511627777 _ (by omega)) ?_
  rintro e w1 ⟨rfl, rfl⟩
  go_wp2_with fail
  refine Calls.mono (lives2_any _) ?_
  rintro e w1 ⟨rfl, hb⟩
  have HW := Lib.hid hb; clear hb
  go_wp2_with fail
  go_ret
  exact ⟨rfl, HW.out⟩
end Go.Proofs.Ytkpbkhbgiijbiaa
