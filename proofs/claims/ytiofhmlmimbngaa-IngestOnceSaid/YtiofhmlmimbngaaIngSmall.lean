/- Chapter 19's law: small. -/
import Derived.Test.YtiofhmlmimbngaaIngOpen
import Derived.Test.YtiofhmlmimbngaaIntakeC
namespace Go.Proofs.Ytiofhmlmimbngaa
open Go.RowKit

/-- Some truth came back; if it is true, then p. -/
def SomeBool (p : Prop) (w : World) (e : Ending) (w' : World) : Prop := ∃ b, e = .returned (.bool b) ∧ (b = true → p) ∧ Below w.heap.size w w'

set_option maxRecDepth 100000 in
set_option maxHeartbeats 1000000 in
theorem smallSpan_any (F : Nat → Prop) (s : Sp.T) (vt : Value) (w : World) (hv : Rw tagK F w vt s.tags) (x : Int) :
    Calls Try.prog 45 #[.agg (spanCells s vt).toArray, .int .i64 x] w (SomeBool True w) := by
  obtain ⟨a, c, rfl⟩ := hv.isSlice
  have hML := hv.len
  simp only [maxLen] at hML
  have HV := Lib.hid hv
  clear hv
  unfold spanCells
  go_enter Try.func45, Try.ntmps45
  go_upto_region 1 with fail
  refine wp_gen fun w1 hw1 => ?_
  have HW1 : Hid (Below w.heap.size w w1) := by rw [hw1]; exact (Below.refl _ _).alloc (Nat.le_refl _) _
  have HK1 : Hid (Blk w1 w.heap.size (spanCells s (.slice a s.tags.length c)).toArray 35) := by rw [hw1]; exact Blk.at_new rfl rfl
  clear hw1
  have k4 : w1.cell? ⟨w.heap.size, 4, none⟩ = some (.string s.service) := HK1.out.cell rfl
  have k5 : w1.cell? ⟨w.heap.size, 5, none⟩ = some (.string s.name) := HK1.out.cell rfl
  have k10 : w1.cell? ⟨w.heap.size, 10, none⟩ = some (.slice a s.tags.length c) := HK1.out.cell rfl
  go_cut [24] from 6 to 23 (fun b wx => (∃ bb, b = .bool bb) ∧ wx = w1)
  case first =>
    go_wp2_with fail
    all_goals
      go_meet
      exact ⟨⟨_, rfl⟩, rfl⟩
  case rest =>
    obtain ⟨⟨bb, rfl⟩, rfl⟩ := hcut
    cases bb with
    | true =>
      go_wp2_with fail
      go_ret
      exact ⟨_, rfl, fun _ => trivial, HW1.out⟩
    | false =>
      go_wp2_with fail
      go_loop [5] (fun i => ∃ j : Nat, i = .int .i64 (j : Int) ∧ j ≤ s.tags.length) (fun i => s.tags.length - (intOf i).toNat)
      case atStart => exact ⟨0, rfl, by omega⟩
      case round =>
        obtain ⟨j, rfl, hj⟩ := hrel
        by_cases hlt : j < s.tags.length
        · obtain ⟨tb, off, cap, ea, _, hb, hc⟩ := tags_at (HV.out.below HW1.out) (by omega)
          injection ea with e1 e2 e3
          subst e1 e3
          clear e2
          obtain ⟨c0, c1⟩ := hc j hlt
          clear hc
          generalize s.tags[j] = t at *
          go_wp2_with fail
          all_goals first
            | (go_ret; exact ⟨_, rfl, fun _ => trivial, HW1.out⟩)
            | (go_round
               case rel => exact ⟨j + 1, by go_num, by omega⟩
               case measure => simp only [intOf]; omega)
        · obtain rfl : j = s.tags.length := by omega
          go_wp2_with fail
          go_ret
          exact ⟨_, rfl, fun _ => trivial, HW1.out⟩

set_option maxRecDepth 100000 in
set_option maxHeartbeats 1000000 in
theorem smallSpans_any (F : Nat → Prop) (v : Value) (l : List Sp.T) (w : World) (hv : Rw spanK F w v l) (x : Int) :
    Calls Try.prog 36 #[v, .int .i64 20, .int .i64 x] w (SomeBool (l.length ≤ 20) w) := by
  obtain ⟨a, c, rfl⟩ := hv.isSlice
  have hML := hv.len
  simp only [maxLen] at hML
  have HV := Lib.hid hv
  clear hv
  go_enter Try.func36, Try.ntmps36
  go_wp2_with fail
  go_loopw [7] (fun i wr => ∃ j : Nat, i = .int .i64 (j : Int) ∧ j ≤ 21 ∧ Hid (Below w.heap.size w wr)) (fun i _ => 21 - (intOf i).toNat)
  case atStart => exact ⟨0, rfl, by omega, Below.refl _ _⟩
  case round =>
    obtain ⟨j, rfl, hj, HW⟩ := hrel
    by_cases hlt : j < l.length
    · have hlt' : (j : Int) < (l.length : Int) := by omega
      by_cases h20 : j ≤ 20
      · have h20' : (j : Int) ≤ 20 := by omega
        obtain ⟨sb, off, cap, ea, _, hsb, hc⟩ := spans_at (HV.out.below HW.out) (by omega)
        injection ea with e1 e2 e3
        subst e1 e3
        clear e2
        obtain ⟨vt, ht, hcs⟩ := hc j hlt
        obtain ⟨ta, tc, rfl⟩ := ht.isSlice
        have HT := Lib.hid ht
        clear hc ht
        generalize l[j] = s at *
        have k0 := hcs 0 _ rfl
        have k1 := hcs 1 _ rfl
        have k2 := hcs 2 _ rfl
        have k3 := hcs 3 _ rfl
        have k4 := hcs 4 _ rfl
        have k5 := hcs 5 _ rfl
        have k6 := hcs 6 _ rfl
        have k7 := hcs 7 _ rfl
        have k8 := hcs 8 _ rfl
        have k9 := hcs 9 _ rfl
        have k10 := hcs 10 _ rfl
        rw [Nat.add_zero] at k0
        clear hcs
        go_wp2_with fail
        refine Calls.mono (smallSpan_any F s (.slice ta s.tags.length tc) _ HT.out x) ?_
        rintro e w1 ⟨bb, rfl, _, hb1⟩
        have HW1 : Hid (Below w.heap.size w w1) := HW.out.trans (hb1.mono HW.out.size)
        clear hb1 k0 k1 k2 k3 k4 k5 k6 k7 k8 k9 k10
        cases bb with
        | true =>
          go_wp2_with fail
          go_roundw
          · exact ⟨j + 1, by go_num, by omega, HW1⟩
          · simp only [intOf]; omega
        | false =>
          go_wp2_with fail
          go_ret
          exact ⟨_, rfl, (fun h => by cases h), HW1.out⟩
      · have h20' : decide ((j : Int) ≤ 20) = false := by simp; omega
        go_wp2_with fail
        go_ret
        exact ⟨_, rfl, (fun h => by have := of_decide_eq_true h; omega), HW.out⟩
    · have hlt' : decide ((j : Int) < (l.length : Int)) = false := by simp; omega
      go_wp2_with fail
      go_ret
      exact ⟨_, rfl, (fun h => by have := of_decide_eq_true h; omega), HW.out⟩

theorem acts_at {F : Nat → Prop} {w : World} {v : Value} {acts : List Act} (h : Rw actK F w v acts) (hne : 0 < acts.length) :
    ∃ b off cap, v = .slice (some ⟨b, off, none⟩) acts.length cap ∧ b < w.heap.size ∧ ∀ i (hi : i < acts.length), ∃ vl, Rw spanK F w vl acts[i].l ∧ (-9223372036854775808 ≤ acts[i].kind ∧ acts[i].kind ≤ 9223372036854775807) ∧
      w.cell? ⟨b, off + i * 3, none⟩ = some (.int .i64 acts[i].kind) ∧ w.cell? ⟨b, off + i * 3 + 1, none⟩ = some vl ∧ w.cell? ⟨b, off + i * 3 + 2, none⟩ = some (.int .i64 acts[i].worker) := by
  obtain ⟨b, off, cap, e, hF, hb, _, _, hc⟩ := h.place hne
  refine ⟨b, off, cap, e, hb, fun i hi => ?_⟩
  obtain ⟨es, ⟨vl, rfl, ht, hk⟩, hes⟩ := hc i hi
  exact ⟨vl, ht, hk, hes 0 _ rfl, hes 1 _ rfl, hes 2 _ rfl⟩

set_option maxRecDepth 100000 in
set_option maxHeartbeats 1000000 in
theorem small_any (F : Nat → Prop) (v : Value) (acts : List Act) (w : World) (hv : Rw actK F w v acts) :
    Calls Try.prog 16 #[v] w (SomeBool (acts.length ≤ 150 ∧ ∀ a ∈ acts, a.l.length ≤ 20) w) := by
  obtain ⟨a, c, rfl⟩ := hv.isSlice
  have hML := hv.len
  simp only [maxLen] at hML
  have HV := Lib.hid hv
  clear hv
  go_enter Try.func16, Try.ntmps16
  go_wp2_with fail
  go_loopw [3] (fun i wr => ∃ j : Nat, i = .int .i64 (j : Int) ∧ j ≤ 151 ∧ Hid (∀ a ∈ acts.take j, a.l.length ≤ 20) ∧ Hid (Below w.heap.size w wr)) (fun i _ => 151 - (intOf i).toNat)
  case atStart => exact ⟨0, rfl, by omega, (by intro a ha; simp at ha), Below.refl _ _⟩
  case round =>
    obtain ⟨j, rfl, hj, HA, HW⟩ := hrel
    by_cases hlt : j < acts.length
    · have hlt' : (j : Int) < (acts.length : Int) := by omega
      by_cases h150 : j ≤ 150
      · have h150' : (j : Int) ≤ 150 := by omega
        obtain ⟨sb, off, cap, ea, hsb, hc⟩ := acts_at (HV.out.below HW.out) (by omega)
        injection ea with e1 e2 e3
        subst e1 e3
        clear e2
        obtain ⟨vl, ht, _, _, k1, _⟩ := hc j hlt
        obtain ⟨la, lc, rfl⟩ := ht.isSlice
        have HT := Lib.hid ht
        have HS : Hid (acts[j].l.length ≤ 20 → ∀ a ∈ acts.take (j + 1), a.l.length ≤ 20) := fun h a ha => by
          rw [List.take_succ_eq_append_getElem hlt] at ha
          rcases List.mem_append.1 ha with h1 | h1
          · exact HA.out a h1
          · rw [List.mem_singleton.1 h1]; exact h
        clear hc ht
        generalize acts[j].l = ll at *
        go_wp2_with fail
        refine Calls.mono (smallSpans_any F (.slice la ll.length lc) ll _ HT.out 200) ?_
        rintro e w1 ⟨bb, rfl, hbb, hb1⟩
        have HW1 : Hid (Below w.heap.size w w1) := HW.out.trans (hb1.mono HW.out.size)
        clear hb1 k1
        cases bb with
        | true =>
          go_wp2_with fail
          go_roundw
          · exact ⟨j + 1, by go_num, by omega, HS.out (by first | exact hbb rfl | exact hbb trivial | exact hbb), HW1⟩
          · simp only [intOf]; omega
        | false =>
          go_wp2_with fail
          go_ret
          exact ⟨_, rfl, (fun h => by cases h), HW1.out⟩
      · have h150' : decide ((j : Int) ≤ 150) = false := by simp; omega
        go_wp2_with fail
        go_ret
        exact ⟨_, rfl, (fun h => by have := of_decide_eq_true h; omega), HW.out⟩
    · have hlt' : decide ((j : Int) < (acts.length : Int)) = false := by simp; omega
      have HA2 : Hid (∀ a ∈ acts, a.l.length ≤ 20) := by
        have h1 := HA.out
        rw [List.take_of_length_le (by omega)] at h1
        exact h1
      go_wp2_with fail
      go_ret
      exact ⟨_, rfl, (fun h => ⟨by have := of_decide_eq_true h; omega, HA2.out⟩), HW.out⟩
end Go.Proofs.Ytiofhmlmimbngaa
