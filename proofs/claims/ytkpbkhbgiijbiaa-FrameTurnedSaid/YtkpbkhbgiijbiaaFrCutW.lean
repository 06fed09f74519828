/- The statement FrameCut: its walk. -/
import Derived.Test.YtkpbkhbgiijbiaaFrRow
import Derived.Test.YtkpbkhbgiijbiaaFrLaws
namespace Go.Proofs.Ytkpbkhbgiijbiaa
open Go.RowKit

theorem lenSum {fs : List Fr.T} (h : Fr.sum fs ≤ 4000) : ∀ f ∈ fs, f.body.length ≤ 4000 := fun f hf => Nat.le_trans (Fr.le_sum fs f hf) h

theorem IntsOwned.place {base : Nat} {w : World} {v : Value} {ns : List Nat} (h : IntsOwned base w v ns) (hne : 0 < ns.length) :
    ∃ g cap, v = .slice (some ⟨g, 0, none⟩) ns.length cap ∧ ∀ i (hi : i < ns.length), w.cell? ⟨g, i, none⟩ = some (.int .i64 (ns[i] : Int)) := by
  have h' := h
  rcases h.2 with ⟨_, e⟩ | ⟨g, c, _, e, _⟩
  · omega
  · subst e
    refine ⟨g, c, rfl, fun i hi => ?_⟩
    rw [World.ownsRow.cellAt h' i (by omega)]
    simp [i64s, hi]

theorem FrCells.take {F : Nat → Prop} {w : World} : ∀ (fs : List Fr.T) (cs : List Value), FrCells F w cs fs → ∀ i, FrCells F w (cs.take (i * 2)) (fs.take i)
  | [], [], _, _ => by simp [FrCells]
  | [], _ :: _, h, _ => by simp [FrCells] at h
  | f :: fs, [], h, _ => by simp [FrCells] at h
  | f :: fs, [_], h, _ => by simp [FrCells] at h
  | f :: fs, k :: vb :: cs, h, 0 => by simp [FrCells]
  | f :: fs, k :: vb :: cs, h, i + 1 => by
    have e : (i + 1) * 2 = i * 2 + 1 + 1 := by omega
    rw [e, List.take_succ_cons, List.take_succ_cons, List.take_succ_cons]
    exact ⟨h.1, h.2.1, FrCells.take fs cs h.2.2 i⟩

theorem size_frame : (Try.prog.info? (Try.prog.elem 40)).map (·.size) = some 2 := by kernel_rfl
theorem under_frames : Try.prog.underlying 40 = some (.slice (Try.prog.elem 40)) := by kernel_rfl

theorem Frames.slice_h {F : Nat → Prop} {w : World} {v : Value} {fs : List Fr.T} (h : Frames F w v fs) (hi : Nat) (h2 : hi ≤ fs.length) :
    ∃ v', (∀ w', (Instr.slice 40 v none (some (.int .i64 (hi : Int))) none).run Try.prog w' = .ok v' w') ∧ Frames F w v' (fs.take hi) := by
  obtain ⟨cs, h1, h3⟩ := h
  obtain ⟨v', hr, hs⟩ := Sl.slice_h under_frames size_frame h1 hi h2
  refine ⟨v', hr, _, ?_, FrCells.take _ _ h3 hi⟩
  rw [List.length_take, Nat.min_eq_left h2]
  exact hs

theorem Fr.ends_get (fs : List Fr.T) (n j : Nat) (h : j < (Fr.ends fs n).length) : (Fr.ends fs n)[j] = Fr.endAt fs (j + 1) := by simp [Fr.ends]

/-- Frames that are not gone through. -/
theorem frameCut_early (W : World) (v : Value) (fs : List Fr.T) (hv : Frames (· < W.heap.size) W v fs) (hml : fs.length ≤ 140737488355328) (hb : ∀ f ∈ fs, f.body.length ≤ 140737488355328) (x : Int) (h : 40 < fs.length ∨ 4000 < Fr.sum fs) :
    Calls Try.prog 8 #[v, .int .i64 x] W fun e w' => e = .returned (.bool true) ∧ Below W.heap.size W w' := by
  obtain ⟨a, c, rfl⟩ := hv.isSlice
  have HV := Lib.hid hv
  clear hv
  go_enter Try.func8, Try.ntmps8
  go_wp2_with fail
  refine Calls.mono (lives3_any _) ?_
  rintro e w1 ⟨rfl, hb1⟩
  have HW := Lib.hid hb1
  clear hb1
  go_wp2_with fail
  by_cases hn : fs.length ≤ 40
  · have hs : decide (Fr.sum fs ≤ 4000) = false := by simp; omega
    refine Calls.mono (small_few _ _ fs _ (HV.out.below HW.out) hn hb) ?_
    rintro e w2 ⟨rfl, rfl⟩
    rw [hs]
    go_wp2_with fail
    go_ret
    exact ⟨rfl, HW.out⟩
  · refine Calls.mono (small_many _ _ fs _ (HV.out.below HW.out) (by omega) hml hb) ?_
    rintro e w2 ⟨rfl, rfl⟩
    go_wp2_with fail
    go_ret
    exact ⟨rfl, HW.out⟩

set_option maxRecDepth 100000 in
set_option maxHeartbeats 1000000 in
theorem frameCut_main (W : World) (v : Value) (fs : List Fr.T) (hv : Frames (· < W.heap.size) W v fs) (hn : fs.length ≤ 40) (hsum : Fr.sum fs ≤ 4000) (x : Int) (hx0 : -9223372036854775808 ≤ x) (hx1 : x ≤ 9223372036854775807) :
    Calls Try.prog 8 #[v, .int .i64 x] W fun e w' => e = .returned (.bool true) ∧ Below W.heap.size W w' := by
  obtain ⟨a, c, rfl⟩ := hv.isSlice
  have HV := Lib.hid hv
  have HB := Lib.hid (lenSum hsum)
  have HS : Hid (decide (Fr.sum fs ≤ 4000) = true) := by
    show _ = _
    simpa using hsum
  have hlen : (Fr.encAll fs).length ≤ 4480 := by rw [Fr.encAll_len_eq]; omega
  clear hv
  go_enter Try.func8, Try.ntmps8
  go_wp2_with fail
  refine Calls.mono (lives3_any _) ?_
  rintro e w1 ⟨rfl, hb1⟩
  have HW1 := Lib.hid hb1
  clear hb1
  go_wp2_with fail
  refine Calls.mono (small_few _ _ fs _ (HV.out.below HW1.out) hn (fun f hf => by have := HB.out f hf; omega)) ?_
  rintro e w2 ⟨rfl, rfl⟩
  rw [HS.out]
  go_wp2_with fail
  refine Calls.mono (rowOf_any _ _ fs _ (HV.out.below HW1.out) HW1.out.size hn HB.out) ?_
  rintro e w2 ⟨vb, ve, rfl, ho, hi, ha, hb2⟩
  obtain ⟨a1, n1, c1, rfl⟩ := ho.isSlice
  obtain ⟨a2, c2, rfl⟩ := hi.isSlice
  have hn1 : n1 = (Fr.encAll fs).length := by
    obtain ⟨_, _, e⟩ := ho.bytes.isSlice
    injection e
  subst hn1
  rw [Fr.ends_len] at *
  have HO := Lib.hid ho
  have HI := Lib.hid hi
  have HW2 : Hid (Below W.heap.size W w2) := HW1.out.trans (hb2.mono HW1.out.size)
  clear ho hi ha hb2
  go_wp2_with fail
  refine Calls.mono (pick_any x ((Fr.encAll fs).length + 1) _ hx0 hx1 (by omega) (by omega)) ?_
  rintro e w3 ⟨k, hk, rfl, rfl⟩
  go_wp2_with fail
  go_loop [8, 9] (fun n e => ∃ j : Nat, n = .int .i64 j ∧ e = .int .i64 (Fr.endAt fs j : Int) ∧ j ≤ fs.length ∧ Hid (Fr.endAt fs j ≤ k)) (fun n _ => fs.length - (intOf n).toNat)
  case atStart => exact ⟨0, rfl, rfl, by omega, Nat.zero_le _⟩
  case round =>
    obtain ⟨j, rfl, rfl, hj, HE⟩ := hrel
    by_cases hc : j < fs.length ∧ Fr.endAt fs (j + 1) ≤ k
    · obtain ⟨hlt, hle⟩ := hc
      obtain ⟨g, cap, eg, hg⟩ := HI.out.place (by rw [Fr.ends_len]; omega)
      rw [Fr.ends_len] at eg
      injection eg with e1 e2 e3
      subst e1 e3
      clear e2
      have k1 := hg j (by rw [Fr.ends_len]; exact hlt)
      rw [Fr.ends_get] at k1
      have HE1 := Lib.hid hle
      clear hg
      go_wp2_with fail
      go_round
      case rel => exact ⟨j + 1, by go_num, rfl, by omega, HE1⟩
      case measure => simp only [intOf]; omega
    · have hstop : j = fs.length ∨ k < Fr.endAt fs (j + 1) := by omega
      have HC0 := Lib.hid (Fr.row_cut fs k j (fun f hf => by have := HB.out f hf; omega) (by omega) hj HE.out hstop)
      obtain ⟨err, herr, HC⟩ : ∃ err : Nat, ((err = 0 ∧ Fr.endAt fs j = k) ∨ (err = 12 ∧ Fr.endAt fs j ≠ k)) ∧ Hid (Fr.row ((Fr.encAll fs).take k) = (fs.take j, Fr.endAt fs j, err)) := by
        by_cases hz : Fr.endAt fs j = k
        · exact ⟨0, .inl ⟨rfl, hz⟩, by rw [HC0.out, if_pos hz]; rfl⟩
        · exact ⟨12, .inr ⟨rfl, hz⟩, by rw [HC0.out, if_neg hz]; rfl⟩
      clear HC0
      obtain ⟨vs, hr1, hvs⟩ := HO.out.bytes.slice_h k (by omega)
      obtain ⟨vl, hr2, hvl⟩ := (HV.out.below HW2.out).slice_h j hj
      have HVS := Lib.hid hvs
      have HVL := Lib.hid hvl
      have hlk : ((Fr.encAll fs).take k).length = k := by simp; omega
      have HLK := Lib.hid hlk
      clear hvs hvl hlk hc
      have hE : (Fr.endAt fs j : Int) ≤ k := by have := HE.out; omega
      by_cases hlt : j < fs.length
      · obtain ⟨g, cap, eg, hg⟩ := HI.out.place (by rw [Fr.ends_len]; omega)
        rw [Fr.ends_len] at eg
        injection eg with e1 e2 e3
        subst e1 e3
        clear e2
        have k1 := hg j (by rw [Fr.ends_len]; exact hlt)
        rw [Fr.ends_get] at k1
        have hgt : ¬ ((Fr.endAt fs (j + 1) : Int) ≤ k) := by omega
        clear hg
        go_wp2_with fail
        refine Calls.mono (own_any _ _ _ _ HVS.out (by rw [HLK.out]; omega)) ?_
        rintro e w4 ⟨v4, rfl, ho4, hb4⟩
        have HO4 := Lib.hid ho4
        have HVL4 := Lib.hid (HVL.out.below hb4)
        have HW4 : Hid (Below W.heap.size W w4) := HW2.out.trans (hb4.mono HW2.out.size)
        clear ho4 hb4
        go_wp2_with fail
        refine Calls.mono (row_any _ _ _ _ HO4.out.bytes (by rw [HLK.out]; omega)) ?_
        rw [HC.out]
        rintro e w5 ⟨v5, rfl, ho5, hb5⟩
        have HF5 := Lib.hid ho5.frames
        have HVL5 := Lib.hid (HVL4.out.below hb5)
        have HW5 : Hid (Below W.heap.size W w5) := HW4.out.trans (hb5.mono HW4.out.size)
        clear ho5 hb5
        dsimp only at *
        go_wp2_with fail
        refine Calls.mono (kframes_any _ _ _ _ _ _ _ HF5.out HVL5.out (by simp; omega)) ?_
        rintro e w6 ⟨rfl, nd, rfl⟩
        rw [decide_eq_true rfl]
        have HW6 : Hid (Below W.heap.size W (w5.drewN nd)) := ⟨HW5.out.os, HW5.out.tape, HW5.out.output, HW5.out.size, HW5.out.block⟩
        rcases herr with ⟨rfl, hz⟩ | ⟨rfl, hz⟩
        · have hne : ((k : Int) == (Fr.endAt fs j : Int)) = true := by simp; omega
          go_wp2_with fail
          all_goals
            go_ret
            exact ⟨rfl, HW6.out⟩
        · have hne : ((k : Int) == (Fr.endAt fs j : Int)) = false := by simp; omega
          go_wp2_with fail
          all_goals
            go_ret
            exact ⟨rfl, HW6.out⟩
      · obtain rfl : j = fs.length := by omega
        go_wp2_with fail
        refine Calls.mono (own_any _ _ _ _ HVS.out (by rw [HLK.out]; omega)) ?_
        rintro e w4 ⟨v4, rfl, ho4, hb4⟩
        have HO4 := Lib.hid ho4
        have HVL4 := Lib.hid (HVL.out.below hb4)
        have HW4 : Hid (Below W.heap.size W w4) := HW2.out.trans (hb4.mono HW2.out.size)
        clear ho4 hb4
        go_wp2_with fail
        refine Calls.mono (row_any _ _ _ _ HO4.out.bytes (by rw [HLK.out]; omega)) ?_
        rw [HC.out]
        rintro e w5 ⟨v5, rfl, ho5, hb5⟩
        have HF5 := Lib.hid ho5.frames
        have HVL5 := Lib.hid (HVL4.out.below hb5)
        have HW5 : Hid (Below W.heap.size W w5) := HW4.out.trans (hb5.mono HW4.out.size)
        clear ho5 hb5
        dsimp only at *
        go_wp2_with fail
        refine Calls.mono (kframes_any _ _ _ _ _ _ _ HF5.out HVL5.out (by simp; omega)) ?_
        rintro e w6 ⟨rfl, nd, rfl⟩
        rw [decide_eq_true rfl]
        have HW6 : Hid (Below W.heap.size W (w5.drewN nd)) := ⟨HW5.out.os, HW5.out.tape, HW5.out.output, HW5.out.size, HW5.out.block⟩
        rcases herr with ⟨rfl, hz⟩ | ⟨rfl, hz⟩
        · have hne : ((k : Int) == (Fr.endAt fs fs.length : Int)) = true := by simp; omega
          go_wp2_with fail
          all_goals
            go_ret
            exact ⟨rfl, HW6.out⟩
        · have hne : ((k : Int) == (Fr.endAt fs fs.length : Int)) = false := by simp; omega
          go_wp2_with fail
          all_goals
            go_ret
            exact ⟨rfl, HW6.out⟩

theorem frameCut_any (W : World) (v : Value) (fs : List Fr.T) (hv : Frames (· < W.heap.size) W v fs) (hml : fs.length ≤ 140737488355328) (hb : ∀ f ∈ fs, f.body.length ≤ 140737488355328) (x : Int) (hx0 : -9223372036854775808 ≤ x) (hx1 : x ≤ 9223372036854775807) :
    Calls Try.prog 8 #[v, .int .i64 x] W fun e w' => e = .returned (.bool true) ∧ Below W.heap.size W w' := by
  by_cases h : 40 < fs.length ∨ 4000 < Fr.sum fs
  · exact frameCut_early W v fs hv hml hb x h
  · exact frameCut_main W v fs hv (by omega) (by omega) x hx0 hx1
end Go.Proofs.Ytkpbkhbgiijbiaa
