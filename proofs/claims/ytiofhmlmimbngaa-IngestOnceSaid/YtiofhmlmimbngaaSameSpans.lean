/- kit.SameSpans at one list, read twice. -/
import Derived.Test.YtiofhmlmimbngaaOrder
import Derived.Test.YtiofhmlmimbngaaSpanD
namespace Go.Proofs.Ytiofhmlmimbngaa
open Go.RowKit

set_option maxRecDepth 100000 in
set_option maxHeartbeats 2000000 in
theorem sameSpans_same (F G : Nat → Prop) (va vb : Value) (l : List Sp.T) (w : World) (ha : Rw spanK F w va l) (hb : Rw spanK G w vb l) :
    Calls Try.prog 19 #[va, vb] w fun e w' => e = .returned (.bool true) ∧ Below w.heap.size w w' := by
  obtain ⟨xa, ca, rfl⟩ := ha.isSlice
  obtain ⟨xb, cb, rfl⟩ := hb.isSlice
  have hml := ha.len
  simp only [maxLen] at hml
  have HA := Lib.hid ha
  have HB := Lib.hid hb
  clear ha hb
  go_enter Try.func19, Try.ntmps19
  go_wp2_with fail
  go_loopw [5] (fun i wr => ∃ j : Nat, i = .int .i64 (j : Int) ∧ j ≤ l.length ∧ Hid (Below w.heap.size w wr)) (fun i _ => l.length - (intOf i).toNat)
  case atStart => exact ⟨0, rfl, by omega, Below.refl _ _⟩
  case round =>
    obtain ⟨j, rfl, hj, HW⟩ := hrel
    by_cases hlt : j < l.length
    · have hjl : (j : Int) < (l.length : Int) := by omega
      obtain ⟨ba, oa, capa, ea, _, hba, hca⟩ := spans_at (HA.out.below HW.out) (by omega)
      obtain ⟨bb, ob, capb, eb, _, hbb, hcb⟩ := spans_at (HB.out.below HW.out) (by omega)
      injection ea with e1 e2 e3
      injection eb with e4 e5 e6
      subst e1 e3 e4 e6
      clear e2 e5
      obtain ⟨vt, ht, hcs⟩ := hca j hlt
      obtain ⟨ta, tc, rfl⟩ := ht.isSlice
      obtain ⟨vu, hu, hcu⟩ := hcb j hlt
      obtain ⟨ua, uc, rfl⟩ := hu.isSlice
      have HT : Hid (Rw tagK _ wr.drew (.slice ta l[j].tags.length tc) l[j].tags) := ht.below (below_drew (Below.refl _ _))
      have HU : Hid (Rw tagK _ wr.drew (.slice ua l[j].tags.length uc) l[j].tags) := hu.below (below_drew (Below.refl _ _))
      have HC1 : Hid (CA ba (oa + j * 11) l[j] (.slice ta l[j].tags.length tc) wr.drew) := CA.of hcs
      have HC2 : Hid (CA bb (ob + j * 11) l[j] (.slice ua l[j].tags.length uc) wr.drew) := CA.of hcu
      have HZ1 : Hid (ba < wr.drew.heap.size) := hba
      have HZ2 : Hid (bb < wr.drew.heap.size) := hbb
      clear hca hcb ht hu hcs hcu hba hbb
      generalize l[j] = s at *
      go_wp2_with fail
      go_region_held3 (fun w' => (w'.cell? ⟨ba, oa + j * 11, none⟩ = some (.int .u64 s.hi) ∧ w'.cell? ⟨ba, oa + j * 11 + 1, none⟩ = some (.int .u64 s.lo) ∧ w'.cell? ⟨ba, oa + j * 11 + 2, none⟩ = some (.int .u64 s.id) ∧ w'.cell? ⟨ba, oa + j * 11 + 3, none⟩ = some (.int .u64 s.parent) ∧ w'.cell? ⟨ba, oa + j * 11 + 4, none⟩ = some (.string s.service) ∧ w'.cell? ⟨ba, oa + j * 11 + 5, none⟩ = some (.string s.name) ∧ w'.cell? ⟨ba, oa + j * 11 + 6, none⟩ = some (.int .i64 s.kind) ∧ w'.cell? ⟨ba, oa + j * 11 + 7, none⟩ = some (.int .i64 s.start) ∧ w'.cell? ⟨ba, oa + j * 11 + 8, none⟩ = some (.int .i64 s.length) ∧ w'.cell? ⟨ba, oa + j * 11 + 9, none⟩ = some (.bool s.fails) ∧ w'.cell? ⟨ba, oa + j * 11 + 10, none⟩ = some (.slice ta s.tags.length tc)) ∧ (w'.cell? ⟨bb, ob + j * 11, none⟩ = some (.int .u64 s.hi) ∧ w'.cell? ⟨bb, ob + j * 11 + 1, none⟩ = some (.int .u64 s.lo) ∧ w'.cell? ⟨bb, ob + j * 11 + 2, none⟩ = some (.int .u64 s.id) ∧ w'.cell? ⟨bb, ob + j * 11 + 3, none⟩ = some (.int .u64 s.parent) ∧ w'.cell? ⟨bb, ob + j * 11 + 4, none⟩ = some (.string s.service) ∧ w'.cell? ⟨bb, ob + j * 11 + 5, none⟩ = some (.string s.name) ∧ w'.cell? ⟨bb, ob + j * 11 + 6, none⟩ = some (.int .i64 s.kind) ∧ w'.cell? ⟨bb, ob + j * 11 + 7, none⟩ = some (.int .i64 s.start) ∧ w'.cell? ⟨bb, ob + j * 11 + 8, none⟩ = some (.int .i64 s.length) ∧ w'.cell? ⟨bb, ob + j * 11 + 9, none⟩ = some (.bool s.fails) ∧ w'.cell? ⟨bb, ob + j * 11 + 10, none⟩ = some (.slice ua s.tags.length uc)))
        (first | exact ⟨HC1.out, HC2.out⟩ | exact ⟨HC1.out.keep hbx1 HZ1.out, HC2.out.keep hbx1 HZ2.out⟩)
        (first | (go_at_call 26; refine Calls.mono (sameSpan_same _ _ s (.slice ta s.tags.length tc) (.slice ua s.tags.length uc) _ HT.out HU.out) ?_; rintro e x1 ⟨rfl, hbx1⟩; skip))
      have HWx : Hid (Below w.heap.size w x1) := HW.out.trans ((below_of_drew hbx1).mono HW.out.size)
      clear hbx1 HC1 HC2
      go_wp2_with fail
      go_roundw
      · exact ⟨j + 1, by go_num, by omega, HWx⟩
      · simp only [intOf]; omega
    · have hjl : decide ((j : Int) < (l.length : Int)) = false := by simp; omega
      go_wp2_with fail
      go_ret
      exact ⟨rfl, HW.out⟩
end Go.Proofs.Ytiofhmlmimbngaa
