/- The statement FrameTurned: its walk. -/
import Derived.Test.YtkpbkhbgiijbiaaFrCutW
import Derived.Test.YtkpbkhbgiijbiaaCrcSees
namespace Go.Proofs.Ytkpbkhbgiijbiaa
open Go.RowKit

/-- Frames that are not gone through. -/
theorem frameTurned_early (W : World) (v : Value) (fs : List Fr.T) (hv : Frames (· < W.heap.size) W v fs) (hml : fs.length ≤ 140737488355328) (hb : ∀ f ∈ fs, f.body.length ≤ 140737488355328) (x : Int) (h : 40 < fs.length ∨ 4000 < Fr.sum fs ∨ fs.length = 0) :
    Calls Try.prog 9 #[v, .int .i64 x] W fun e w' => e = .returned (.bool true) ∧ Below W.heap.size W w' := by
  obtain ⟨a, c, rfl⟩ := hv.isSlice
  have HV := Lib.hid hv
  clear hv
  go_enter Try.func9, Try.ntmps9
  go_wp2_with fail
  refine Calls.mono (lives3_any _) ?_
  rintro e w1 ⟨rfl, hb1⟩
  have HW := Lib.hid hb1
  clear hb1
  go_wp2_with fail
  by_cases hn : fs.length ≤ 40
  · by_cases hs : Fr.sum fs ≤ 4000
    · have h0 : fs.length = 0 := by omega
      refine Calls.mono (small_few _ _ fs _ (HV.out.below HW.out) hn hb) ?_
      rintro e w2 ⟨rfl, rfl⟩
      rw [decide_eq_true hs]
      go_wp2_with fail
      go_ret
      exact ⟨rfl, HW.out⟩
    · refine Calls.mono (small_few _ _ fs _ (HV.out.below HW.out) hn hb) ?_
      rintro e w2 ⟨rfl, rfl⟩
      rw [decide_eq_false hs]
      go_wp2_with fail
      go_ret
      exact ⟨rfl, HW.out⟩
  · refine Calls.mono (small_many _ _ fs _ (HV.out.below HW.out) (by omega) hml hb) ?_
    rintro e w2 ⟨rfl, rfl⟩
    go_wp2_with fail
    go_ret
    exact ⟨rfl, HW.out⟩

set_option maxRecDepth 100000 in
set_option maxHeartbeats 1000000 in
theorem frameTurned_main (W : World) (v : Value) (fs : List Fr.T) (hv : Frames (· < W.heap.size) W v fs) (hn : fs.length ≤ 40) (hsum : Fr.sum fs ≤ 4000) (h0 : 0 < fs.length) (x : Int) (hx0 : -9223372036854775808 ≤ x) (hx1 : x ≤ 9223372036854775807) :
    Calls Try.prog 9 #[v, .int .i64 x] W fun e w' => e = .returned (.bool true) ∧ Below W.heap.size W w' := by
  obtain ⟨a, c, rfl⟩ := hv.isSlice
  have HV := Lib.hid hv
  have HB := Lib.hid (lenSum hsum)
  have HS : Hid (decide (Fr.sum fs ≤ 4000) = true) := by
    show _ = _
    simpa using hsum
  have hlen : (Fr.encAll fs).length ≤ 4480 := by rw [Fr.encAll_len_eq]; omega
  have hpos : 0 < (Fr.encAll fs).length := by rw [Fr.encAll_len_eq]; omega
  clear hv
  go_enter Try.func9, Try.ntmps9
  go_wp2_with fail
  refine Calls.mono (lives3_any _) ?_
  rintro e w1 ⟨rfl, hb1⟩
  have HW1 := Lib.hid hb1
  clear hb1
  go_wp2_with fail
  refine Calls.mono (small_few _ _ fs _ (HV.out.below HW1.out) hn (fun f hf => by have := HB.out f hf; omega)) ?_
  rintro e w1' ⟨rfl, rfl⟩
  rw [HS.out]
  go_wp2_with fail
  refine Calls.mono (rowOf_any _ _ fs _ (HV.out.below HW1.out) HW1.out.size hn HB.out) ?_
  rintro e w2 ⟨vb, ve, rfl, ho, hi, ha, hb2⟩
  obtain ⟨g1, c1, rfl, hg1, hg2, _⟩ := ho.place hpos
  obtain ⟨g2, c2, rfl, hcell⟩ := hi.place (by rw [Fr.ends_len]; exact h0)
  rw [Fr.ends_len] at *
  have HC := Lib.hid hcell
  have HO := Lib.hid ho
  have HW2 : Hid (Below W.heap.size W w2) := HW1.out.trans (hb2.mono HW1.out.size)
  have HG1 : Hid (W.heap.size ≤ g1) := Nat.le_trans HW1.out.size hg1
  have HA : Hid (g1 ≠ g2) := fun e => ha g1 rfl (by rw [e]; rfl)
  clear ho hi ha hb2 hcell hg1
  go_wp2_with fail
  refine Calls.mono (pick_any x ((Fr.encAll fs).length * 8) _ hx0 hx1 (by omega) (by omega)) ?_
  rintro e w3 ⟨k, hk, rfl, rfl⟩
  have hk8 : k / 8 < (Fr.encAll fs).length := by omega
  have kc := HO.out.cell (k / 8) hk8
  have kf := HO.out.free (k / 8)
  generalize hy : (Fr.encAll fs).getD (k / 8) 0 = y at *
  go_wp2_with fail
  refine wp_gen fun w3 hw3 => ?_
  have hs8 : k % 8 < 8 := by omega
  rw [flip_form y (k % 8) hs8] at hw3
  have HO3 : Hid (Owned w1'.heap.size w3 (.slice (some ⟨g1, 0, none⟩) (Fr.encAll fs).length c1) (Fr.turn (Fr.encAll fs) (k / 8) (k % 8))) := by
    rw [hw3]
    unfold Fr.turn
    rw [hy]
    exact HO.out.set (k / 8) _
  have HC3 : Hid (∀ (i : Nat) (hi : i < (Fr.ends fs fs.length).length), w3.cell? ⟨g2, i, none⟩ = some (.int .i64 ((Fr.ends fs fs.length)[i] : Int))) := fun i hi => by
    rw [hw3, World.cell?_of_block (w := w2) (Below.heap_setCell _ _ _ _ (fun e => HA.out e.symm))]
    exact HC.out i hi
  have HW3 : Hid (Below W.heap.size W w3) := by rw [hw3]; exact HW2.out.setCell HG1.out _
  clear hw3 HC HW2 HO kc kf hy HW1 hg2
  go_loop [8] (fun n => ∃ j : Nat, n = .int .i64 j ∧ j ≤ fs.length ∧ Hid (Fr.endAt fs j ≤ k / 8)) (fun n => fs.length - (intOf n).toNat)
  case atStart => exact ⟨0, rfl, by omega, Nat.zero_le _⟩
  case round =>
    obtain ⟨j, rfl, hj, HE⟩ := hrel
    have hlt : j < fs.length := by
      rcases Nat.lt_or_ge j fs.length with h | h
      · exact h
      · have h1 := HE.out
        have h2 : j = fs.length := by omega
        rw [h2, Fr.endAt_all] at h1
        omega
    have k1 := HC3.out j (by rw [Fr.ends_len]; exact hlt)
    rw [Fr.ends_get] at k1
    by_cases hc : Fr.endAt fs (j + 1) ≤ k / 8
    · have hci : (Fr.endAt fs (j + 1) : Int) ≤ (k : Int) / 8 := by omega
      have HE1 := Lib.hid hc
      go_wp2_with fail
      go_round
      case rel => exact ⟨j + 1, by go_num, by omega, HE1⟩
      case measure => simp only [intOf]; omega
    · have hci : ¬ ((Fr.endAt fs (j + 1) : Int) ≤ (k : Int) / 8) := by omega
      have HT := Lib.hid (Fr.row_turn fs (k / 8) (k % 8) j (fun f hf => by have := HB.out f hf; omega) hs8 hlt HE.out (by omega))
      obtain ⟨vl, hr2, hvl⟩ := (HV.out.below HW3.out).slice_h j hj
      have HVL := Lib.hid hvl
      clear hvl
      go_wp2_with fail
      refine Calls.mono (row_any _ _ _ _ HO3.out.bytes (by rw [Fr.turn_len]; omega)) ?_
      rw [HT.out]
      rintro e w5 ⟨v5, rfl, ho5, hb5⟩
      have HF5 := Lib.hid ho5.frames
      have HVL5 := Lib.hid (HVL.out.below hb5)
      have HW5 : Hid (Below W.heap.size W w5) := HW3.out.trans (hb5.mono HW3.out.size)
      clear ho5 hb5
      dsimp only at *
      go_wp2_with fail
      refine Calls.mono (kframes_any _ _ _ _ _ _ _ HF5.out HVL5.out (by simp; omega)) ?_
      rintro e w6 ⟨rfl, nd, rfl⟩
      rw [decide_eq_true rfl]
      have HW6 : Hid (Below W.heap.size W (w5.drewN nd)) := ⟨HW5.out.os, HW5.out.tape, HW5.out.output, HW5.out.size, HW5.out.block⟩
      go_wp2_with fail
      go_ret
      exact ⟨rfl, HW6.out⟩

theorem frameTurned_any (W : World) (v : Value) (fs : List Fr.T) (hv : Frames (· < W.heap.size) W v fs) (hml : fs.length ≤ 140737488355328) (hb : ∀ f ∈ fs, f.body.length ≤ 140737488355328) (x : Int) (hx0 : -9223372036854775808 ≤ x) (hx1 : x ≤ 9223372036854775807) :
    Calls Try.prog 9 #[v, .int .i64 x] W fun e w' => e = .returned (.bool true) ∧ Below W.heap.size W w' := by
  by_cases h : 40 < fs.length ∨ 4000 < Fr.sum fs ∨ fs.length = 0
  · exact frameTurned_early W v fs hv hml hb x h
  · exact frameTurned_main W v fs hv (by omega) (by omega) (by omega) x hx0 hx1
end Go.Proofs.Ytkpbkhbgiijbiaa
