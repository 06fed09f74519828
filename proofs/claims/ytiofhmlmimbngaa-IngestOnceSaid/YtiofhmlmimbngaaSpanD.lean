/- kit.SameSpan at one span, read twice. -/
import Derived.Test.YtiofhmlmimbngaaSpanC
namespace Go.Proofs.Ytiofhmlmimbngaa
open Go.RowKit

theorem dn_more2 {w w1 : World} (h : ∃ n, w1 = w.drewN n) (k : Nat) : ∃ n, w1.drewN k = w.drewN n := by
  obtain ⟨n, e⟩ := h
  exact ⟨n + k, by rw [e, World.drewN_drewN]⟩

set_option maxRecDepth 100000 in
set_option maxHeartbeats 1000000 in
theorem sameSpan_same (F G : Nat → Prop) (s : Sp.T) (va vb : Value) (w : World) (ha : Rw tagK F w va s.tags) (hb : Rw tagK G w vb s.tags) :
    Calls Try.prog 26 #[.agg (spanCells s va).toArray, .agg (spanCells s vb).toArray] w fun e w' => e = .returned (.bool true) ∧ Below w.heap.size w w' := by
  obtain ⟨aa, ca, rfl⟩ := ha.isSlice
  obtain ⟨ab, cb, rfl⟩ := hb.isSlice
  have hml := ha.len
  simp only [maxLen] at hml
  have HA := Lib.hid ha
  have HB := Lib.hid hb
  clear ha hb
  unfold spanCells
  go_enter Try.func26, Try.ntmps26
  go_wp2_with fail
  refine wp_gen fun w1 hw1 => ?_
  have HW1 : Hid (Below w.heap.size w w1) := by rw [hw1]; exact ((Below.refl _ _).alloc (Nat.le_refl _) _).alloc (by simp) _
  have HK1 : Hid (Blk w1 w.heap.size (spanCells s (.slice aa s.tags.length ca)).toArray 35) := by rw [hw1]; exact (Blk.at_new rfl rfl).alloc _
  have HL1 : Hid (Blk w1 (w.heap.size + 1) (spanCells s (.slice ab s.tags.length cb)).toArray 35) := by rw [hw1]; exact Blk.at_new (by simp) rfl
  clear hw1
  go_loopw [5] (fun i wr => ∃ j : Nat, i = .int .i64 (j : Int) ∧ j ≤ s.tags.length ∧ Hid (∃ n, wr = w1.drewN n)) (fun i _ => s.tags.length - (intOf i).toNat)
  case atStart => exact ⟨0, rfl, by omega, 0, rfl⟩
  case round =>
    obtain ⟨j, rfl, hj, HW⟩ := hrel
    have HBr : Hid (Below w1.heap.size w1 wr) := by obtain ⟨n, e⟩ := HW.out; rw [e]; exact ⟨rfl, rfl, rfl, Nat.le_refl _, fun _ _ => rfl⟩
    have HKr : Hid (Blk wr w.heap.size (spanCells s (.slice aa s.tags.length ca)).toArray 35) := HK1.out.below HBr.out HK1.out.lt
    have HLr : Hid (Blk wr (w.heap.size + 1) (spanCells s (.slice ab s.tags.length cb)).toArray 35) := HL1.out.below HBr.out HL1.out.lt
    have k1 : wr.cell? ⟨w.heap.size, 10, none⟩ = some (.slice aa s.tags.length ca) := HKr.out.cell rfl
    have k2 : wr.cell? ⟨w.heap.size + 1, 10, none⟩ = some (.slice ab s.tags.length cb) := HLr.out.cell rfl
    by_cases hlt : j < s.tags.length
    · obtain ⟨ba, oa, ca', ea, _, _, hca⟩ := tags_at ((HA.out.below HW1.out).below HBr.out) (by omega)
      obtain ⟨bb, ob, cb', eb, _, _, hcb⟩ := tags_at ((HB.out.below HW1.out).below HBr.out) (by omega)
      injection ea with e1 e2 e3
      injection eb with e4 e5 e6
      subst e1 e3 e4 e6
      clear e2 e5
      obtain ⟨c0, c1⟩ := hca j hlt
      obtain ⟨d0, d1⟩ := hcb j hlt
      clear hca hcb
      generalize s.tags[j] = t at *
      go_wp2_with fail
      go_quiet (fail)
      go_wp2_with fail
      go_roundw
      · exact ⟨j + 1, by go_num, by omega, dn_more2 HW.out _⟩
      · simp only [intOf]; omega
    · obtain rfl : j = s.tags.length := by omega
      go_wp2_with fail
      go_ret
      exact ⟨rfl, HW1.out.trans (HBr.out.mono HW1.out.size)⟩
end Go.Proofs.Ytiofhmlmimbngaa
