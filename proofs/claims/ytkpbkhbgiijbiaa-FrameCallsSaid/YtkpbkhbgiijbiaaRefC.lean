/- The document's Read: contracts. -/
import Derived.Test.YtkpbkhbgiijbiaaRefB
namespace Go.Proofs.Ytkpbkhbgiijbiaa
open Go.RowKit

set_option maxRecDepth 100000 in
theorem rsame_any (F G : Nat → Prop) (va : Value) (xs : List UInt8) (vb : Value) (ys : List UInt8) (w : World) (ha : Bytes F w va xs) (hb : Bytes G w vb ys) (hl : xs.length = ys.length) :
    Calls Try.prog 41 #[va, vb] w fun e w' => e = .returned (.bool (decide (xs = ys))) ∧ ∃ n, w' = w.drewN n := by
  obtain ⟨aa, ca, rfl⟩ := ha.isSlice
  obtain ⟨ab, cb, rfl⟩ := hb.isSlice
  have HA := Lib.hid ha
  have HB := Lib.hid hb
  have hml := ha.len
  simp only [maxLen] at hml
  clear ha hb
  rw [← hl]
  have HB2 : Hid (Bytes G w (Value.slice ab xs.length cb) ys) := by rw [hl]; exact HB.out
  have HL := Lib.hid hl
  clear HB hl
  go_enter Try.func41, Try.ntmps41
  go_wp2_with fail
  go_loopw [5] (fun i wr => ∃ j : Nat, i = .int .i64 j ∧ j ≤ xs.length ∧ Hid (xs.take j = ys.take j) ∧ Hid (∃ n, wr = w.drewN n)) (fun i _ => xs.length - (intOf i).toNat)
  case atStart => exact ⟨0, rfl, by omega, rfl, 0, rfl⟩
  case round =>
    obtain ⟨j, rfl, hj, HE, HW⟩ := hrel
    have hwc : ∀ a, wr.cell? a = w.cell? a := fun a => by obtain ⟨n, h⟩ := HW.out; rw [h]; rfl
    by_cases hlt : j < xs.length
    · obtain ⟨ba, oa, ca', ea, _, _, _, _, hca⟩ := Sl.place HA.out (by rw [u8s_len]; omega)
      obtain ⟨bb, ob, cb', eb, _, _, _, _, hcb⟩ := Sl.place HB2.out (by rw [u8s_len, ← HL.out]; exact Nat.zero_lt_of_lt hlt)
      cases ea
      injection eb with e1 e2 e3
      subst e1 e3
      clear e2
      have ka : wr.cell? ⟨ba, oa + j, none⟩ = some (.int .u8 ((xs.getD j 0).toNat : Int)) := (hwc _).trans <| hca j _ (u8s_get _ _ hlt)
      have kb : wr.cell? ⟨bb, ob + j, none⟩ = some (.int .u8 ((ys.getD j 0).toNat : Int)) := (hwc _).trans <| hcb j _ (u8s_get _ _ (by rw [← HL.out]; exact hlt))
      clear hca hcb hwc
      have hs := take_succ_eq HE.out hlt (by rw [← HL.out]; exact hlt)
      have hxy : ∀ h : xs.getD j 0 ≠ ys.getD j 0, xs ≠ ys := fun h e => h (by rw [e])
      generalize xs.getD j 0 = x at *
      generalize ys.getD j 0 = y at *
      have HS := Lib.hid hs
      have HX := Lib.hid hxy
      clear hs hxy
      by_cases hxy : x = y
      · subst hxy
        go_wp2_with fail
        go_region
        go_wp2_with fail
        go_roundw
        · exact ⟨j + 1, by go_num, by omega, HS.out trivial, (by first | exact HW.out | exact drewN_one HW.out | exact drewN_more HW.out _)⟩
        · simp only [intOf]; omega
      · have hne : ((x.toNat : Int) != (y.toNat : Int)) = true := by
          rw [bne_iff_ne]
          intro h
          exact hxy (UInt8.toNat_inj.1 (by omega))
        have HD : Hid (decide (xs = ys) = false) := by
          show _ = _
          simpa using HX.out hxy
        go_wp2_with fail
        go_quiet (fail)
        all_goals
          go_wp2_with fail
          go_ret
          exact ⟨congrArg (fun b => Ending.returned (.bool b)) HD.out.symm, (by first | exact HW.out | exact drewN_one HW.out | exact drewN_more HW.out _)⟩
    · have HD : Hid (decide (xs = ys) = true) := by
        show _ = _
        have h1 := HE.out
        rw [List.take_of_length_le (by omega), List.take_of_length_le (by rw [← HL.out]; omega)] at h1
        simpa using h1
      go_wp2_with fail
      go_ret
      exact ⟨congrArg (fun b => Ending.returned (.bool b)) HD.out.symm, (by first | exact HW.out | exact drewN_one HW.out | exact drewN_more HW.out _)⟩

end Go.Proofs.Ytkpbkhbgiijbiaa
