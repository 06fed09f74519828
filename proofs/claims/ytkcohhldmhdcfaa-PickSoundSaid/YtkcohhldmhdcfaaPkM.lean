/- The law PickNames: its walk. -/
import Derived.Test.YtkcohhldmhdcfaaPkL
namespace Go.Proofs.Ytkcohhldmhdcfaa
open Go.RowKit

theorem score_q3 : scoreB q3 stp0 1 = 250 := by
  unfold scoreB
  rw [if_pos ⟨mayW_of chk_q3 stp0_ok, by decide, by decide⟩, show (1 : Int).toNat = 1 from rfl, (score_lv (n0 := 0) (n1 := 250) chk_q3 rfl (by decide) rfl rfl).2.1]
  decide
theorem rest_q3 : restB q3 stp0 = false := by unfold restB; rw [worst_q3]; simp
theorem stp_zero : stpW ⟨0, 0, 0⟩ = 2 := stpW_no fun h => absurd h.t0 (by decide)
theorem pscore_at {v : Ver} {s : Stp} {lev c : Int} (hc : scoreB v s lev = c) (lv : Value) (w : World) (h : Rw (rowK filK) Any w lv v.levels) (hw : v.wf) (hfew : cntTo v.levels v.levels.length ≤ 1000000) :
    Calls Try.prog 19 #[.agg (verCells v lv).toArray, .agg (stpCells s).toArray, .int .i64 lev] w fun e w' => e = .returned (.int .i64 c) ∧ Below w.heap.size w w' := by subst hc; exact pscore_any Any v s lv lev w h hw hfew
theorem prest_at {v : Ver} {s : Stp} {b : Bool} (hc : restB v s = b) (lv : Value) (w : World) (h : Rw (rowK filK) Any w lv v.levels) (hw : v.wf) (hfew : cntTo v.levels v.levels.length ≤ 1000000) :
    Calls Try.prog 14 #[.agg (verCells v lv).toArray, .agg (stpCells s).toArray] w fun e w' => e = .returned (.bool b) ∧ Below w.heap.size w w' := by subst hc; exact rest_any Any v s lv w h hw hfew
theorem bound_at {s : Stp} {lev c : Int} (hc : boundW s lev = c) (w : World) :
    Calls Try.prog 21 #[.agg (stpCells s).toArray, .int .i64 lev] w fun e w' => e = .returned (.int .i64 c) ∧ Below w.heap.size w w' := by subst hc; exact bound_any s lev w
theorem setup_at {s : Stp} {c : Int} (hc : stpW s = c) (w : World) :
    Calls Try.prog 12 #[.agg (stpCells s).toArray] w fun e w' => e = .returned (.int .i64 c) ∧ Below w.heap.size w w' := by subst hc; exact setup_any s w
set_option maxRecDepth 100000 in
set_option maxHeartbeats 16000000 in
theorem pickNames_any (w : World) :
    Calls Try.prog 4 #[] w fun x w' => x = .returned (.bool true) ∧ Below w.heap.size w w' := by
  go_enter Try.func4, Try.ntmps4
  go_wp2_with fail
  refine Calls.mono (pfile_any 1 250 [97] [98] w (by decide) (by decide) u64_1 i64_250) ?_
  rintro _ w1 ⟨vk, vv, rfl, hk, hv, hb⟩
  obtain ⟨ka0, kc0, rfl⟩ := hk.isSlice
  obtain ⟨va0, vc0, rfl⟩ := hv.isSlice
  have hk0 := hk.any
  have hv0 := hv.any
  have HB1 := Lib.hid hb
  clear hk hv hb
  unfold filCells lf
  go_wp2_with fail
  refine calls_gen fun w2 hw => ?_
  have hb : Below w1.heap.size w1 w2 := by rw [hw]; exact (Below.refl _ _).alloc (Nat.le_refl _) _
  have HR : Hid (Rw filK Any w2 (.slice (some ⟨w1.heap.size, 0, none⟩) 1 1) [p5]) := files1 (T := 42) (b := w1.heap.size) (show Blk w2 _ (filCells p5 (.slice ka0 1 kc0) (.slice va0 1 vc0)).toArray _ from by rw [hw]; exact Blk.at_new rfl rfl) (hk0.below hb) (hv0.below hb) (wf_lf u64_1 i64_250)
  clear hw hk0 hv0
  generalize hfb : w1.heap.size = fb at HR ⊢
  clear hfb
  have HB2 : Hid (Below w.heap.size w w2) := HB1.out.trans (hb.mono HB1.out.size)
  clear hb HB1
  refine Calls.mono (pversion_any [] [p5] _ _ w2 (Rw.nil _ _ _) HR.out) ?_
  rintro _ w3 ⟨lb, rfl, hl, hb⟩
  have HL := Lib.hid hl
  have HB3 : Hid (Below w.heap.size w w3) := HB2.out.trans (hb.mono HB2.out.size)
  clear hl HR hb HB2
  unfold verCells lv
  go_upto_region 2 with fail
  refine wp_gen fun w4 hw => ?_
  have hb : Below w3.heap.size w3 w4 := by rw [hw]; exact (Below.refl _ _).alloc (Nat.le_refl _) _
  have HX : Hid (Blk w4 w3.heap.size #[.slice (some ⟨lb, 0, none⟩) 5 5, .int .u64 9, .int .u64 0, .int .u64 0] 25) := by rw [hw]; exact Blk.at_new rfl rfl
  clear hw
  have HL4 : Hid (Rw (rowK filK) Any w4 (.slice (some ⟨lb, 0, none⟩) 5 5) q3.levels) := HL.out.below hb
  have HB4 : Hid (Below w.heap.size w w4) := HB3.out.trans (hb.mono HB3.out.size)
  clear hb HL HB3
  generalize w3.heap.size = vb at *
  have HKP : Hid (∀ W, Below w4.heap.size w4 W → (W.cell? ⟨vb, 0, none⟩ = some (.slice (some ⟨lb, 0, none⟩) 5 5) ∧ W.cell? ⟨vb, 1, none⟩ = some (.int .u64 9) ∧ W.cell? ⟨vb, 2, none⟩ = some (.int .u64 0) ∧ W.cell? ⟨vb, 3, none⟩ = some (.int .u64 0))) := fun W hb => ⟨(HX.out.below hb HX.out.lt).cell rfl, (HX.out.below hb HX.out.lt).cell rfl, (HX.out.below hb HX.out.lt).cell rfl, (HX.out.below hb HX.out.lt).cell rfl⟩
  have D0 : Hid (Below w4.heap.size w4 w4.drew) := below_drew (Below.refl _ _)
  refine wp_region_held_drew (S := fun w' => (w'.cell? ⟨vb, 0, none⟩ = some (.slice (some ⟨lb, 0, none⟩) 5 5) ∧ w'.cell? ⟨vb, 1, none⟩ = some (.int .u64 9) ∧ w'.cell? ⟨vb, 2, none⟩ = some (.int .u64 0) ∧ w'.cell? ⟨vb, 3, none⟩ = some (.int .u64 0))) (by kernel_rfl) (HKP.out _ D0.out) (fun hHeld => ?_)
  have hOld := hHeld
  clear hHeld
  refine wpAnyH_ready (rs := [0]) (by kernel_rfl) (by simp) ?_
  refine AllReadyH.cons (o := ?oR_1_0) ?eR_1_0 (fun K hK => ?_) AllReadyH.nil
  case eR_1_0 => simp only [List.getElem?_toArray, List.getElem?_cons_zero]; rfl
  go_simp
  (go_at_call 9; refine Calls.mono (plives_any _) ?_; rintro _ x0 ⟨rfl, hb0⟩; have D1 : Hid (Below w4.heap.size w4 x0) := D0.out.trans (hb0.mono D0.out.size); clear hb0)
  try go_wp2_with fail
  refine hK.out _ _ (HKP.out _ D1.out) (fun hHeld => ?_)
  clear hK hOld
  try simp only [Act.put, List.setIfInBounds_toArray, List.set_cons_zero, List.set_cons_succ]
  refine wpAnyH_take (i := 1) (oi := ?oR_2_1) (v := ?vR_2_1) ?eR_2_1 (by kernel_rfl) (by kernel_rfl) (by kernel_rfl) ?qR_2_1 (Or.inl ⟨?wR_2_1, ?yR_2_1⟩) (by assumption) ?rR_2_1
  case eR_2_1 => simp only [List.getElem?_toArray, List.getElem?_cons_succ, List.getElem?_cons_zero]; rfl
  case wR_2_1 => rfl
  case qR_2_1 => exact fun _ _ _ h => h
  case yR_2_1 => (intro w hSw; (try dsimp only at hSw); go_simp; try with_reducible rfl)
  try simp only [Act.put, List.setIfInBounds_toArray, List.set_cons_zero, List.set_cons_succ]
  refine wpAnyH_take (i := 2) (oi := ?oR_3_2) (v := ?vR_3_2) ?eR_3_2 (by kernel_rfl) (by kernel_rfl) (by kernel_rfl) ?qR_3_2 (Or.inl ⟨?wR_3_2, ?yR_3_2⟩) (by assumption) ?rR_3_2
  case eR_3_2 => simp only [List.getElem?_toArray, List.getElem?_cons_succ, List.getElem?_cons_zero]; rfl
  case wR_3_2 => rfl
  case qR_3_2 => exact fun _ _ _ h => h
  case yR_3_2 => (intro w hSw; (try dsimp only at hSw); go_simp; try with_reducible rfl)
  try simp only [Act.put, List.setIfInBounds_toArray, List.set_cons_zero, List.set_cons_succ]
  have hOld := hHeld
  clear hHeld
  refine wpAnyH_ready (rs := [3]) (by kernel_rfl) (by simp) ?_
  refine AllReadyH.cons (o := ?oR_4_3) ?eR_4_3 (fun K hK => ?_) AllReadyH.nil
  case eR_4_3 => simp only [List.getElem?_toArray, List.getElem?_cons_succ, List.getElem?_cons_zero]; rfl
  go_simp
  (go_at_call 20; refine Calls.mono (psetup_any _) ?_; rintro _ x1 ⟨rfl, hb1⟩; have D2 : Hid (Below w4.heap.size w4 x1) := D1.out.trans (hb1.mono D1.out.size); clear hb1)
  try go_wp2_with fail
  refine hK.out _ _ (HKP.out _ D2.out) (fun hHeld => ?_)
  clear hK hOld
  try simp only [Act.put, List.setIfInBounds_toArray, List.set_cons_zero, List.set_cons_succ]
  have hOld := hHeld
  clear hHeld
  refine wpAnyH_ready (rs := [4]) (by kernel_rfl) (by simp) ?_
  refine AllReadyH.cons (o := ?oR_5_4) ?eR_5_4 (fun K hK => ?_) AllReadyH.nil
  case eR_5_4 => simp only [List.getElem?_toArray, List.getElem?_cons_succ, List.getElem?_cons_zero]; rfl
  go_simp
  (go_at_call 19; refine Calls.mono (pscore_at score_q3 (.slice (some ⟨lb, 0, none⟩) 5 5) _ (HL4.out.below D2.out) ⟨u64_9, u64_0, u64_0⟩ (by decide)) ?_; rintro _ x2 ⟨rfl, hb2⟩; have D3 : Hid (Below w4.heap.size w4 x2) := D2.out.trans (hb2.mono D2.out.size); clear hb2)
  try go_wp2_with fail
  refine hK.out _ _ (HKP.out _ D3.out) (fun hHeld => ?_)
  clear hK hOld
  try simp only [Act.put, List.setIfInBounds_toArray, List.set_cons_zero, List.set_cons_succ]
  refine wpAnyH_take (i := 5) (oi := ?oR_6_5) (v := ?vR_6_5) ?eR_6_5 (by kernel_rfl) (by kernel_rfl) (by kernel_rfl) ?qR_6_5 (Or.inl ⟨?wR_6_5, ?yR_6_5⟩) (by assumption) ?rR_6_5
  case eR_6_5 => simp only [List.getElem?_toArray, List.getElem?_cons_succ, List.getElem?_cons_zero]; rfl
  case wR_6_5 => rfl
  case qR_6_5 => exact fun _ _ _ h => h
  case yR_6_5 => (intro w hSw; (try dsimp only at hSw); go_simp; try with_reducible rfl)
  try simp only [Act.put, List.setIfInBounds_toArray, List.set_cons_zero, List.set_cons_succ]
  refine wpAnyH_take (i := 6) (oi := ?oR_7_6) (v := ?vR_7_6) ?eR_7_6 (by kernel_rfl) (by kernel_rfl) (by kernel_rfl) ?qR_7_6 (Or.inl ⟨?wR_7_6, ?yR_7_6⟩) (by assumption) ?rR_7_6
  case eR_7_6 => simp only [List.getElem?_toArray, List.getElem?_cons_succ, List.getElem?_cons_zero]; rfl
  case wR_7_6 => rfl
  case qR_7_6 => exact fun _ _ _ h => h
  case yR_7_6 => (intro w hSw; (try dsimp only at hSw); go_simp; try with_reducible rfl)
  try simp only [Act.put, List.setIfInBounds_toArray, List.set_cons_zero, List.set_cons_succ]
  refine wpAnyH_take (i := 7) (oi := ?oR_8_7) (v := ?vR_8_7) ?eR_8_7 (by kernel_rfl) (by kernel_rfl) (by kernel_rfl) ?qR_8_7 (Or.inl ⟨?wR_8_7, ?yR_8_7⟩) (by assumption) ?rR_8_7
  case eR_8_7 => simp only [List.getElem?_toArray, List.getElem?_cons_succ, List.getElem?_cons_zero]; rfl
  case wR_8_7 => rfl
  case qR_8_7 => exact fun _ _ _ h => h
  case yR_8_7 => (intro w hSw; (try dsimp only at hSw); go_simp; try with_reducible rfl)
  try simp only [Act.put, List.setIfInBounds_toArray, List.set_cons_zero, List.set_cons_succ]
  have hOld := hHeld
  clear hHeld
  refine wpAnyH_ready (rs := [8]) (by kernel_rfl) (by simp) ?_
  refine AllReadyH.cons (o := ?oR_9_8) ?eR_9_8 (fun K hK => ?_) AllReadyH.nil
  case eR_9_8 => simp only [List.getElem?_toArray, List.getElem?_cons_succ, List.getElem?_cons_zero]; rfl
  go_simp
  (go_at_call 20; refine Calls.mono (psetup_any _) ?_; rintro _ x3 ⟨rfl, hb3⟩; have D4 : Hid (Below w4.heap.size w4 x3) := D3.out.trans (hb3.mono D3.out.size); clear hb3)
  try go_wp2_with fail
  refine hK.out _ _ (HKP.out _ D4.out) (fun hHeld => ?_)
  clear hK hOld
  try simp only [Act.put, List.setIfInBounds_toArray, List.set_cons_zero, List.set_cons_succ]
  have hOld := hHeld
  clear hHeld
  refine wpAnyH_ready (rs := [9]) (by kernel_rfl) (by simp) ?_
  refine AllReadyH.cons (o := ?oR_10_9) ?eR_10_9 (fun K hK => ?_) AllReadyH.nil
  case eR_10_9 => simp only [List.getElem?_toArray, List.getElem?_cons_succ, List.getElem?_cons_zero]; rfl
  go_simp
  (go_at_call 21; refine Calls.mono (bound_at bd3 _) ?_; rintro _ x4 ⟨rfl, hb4⟩; have D5 : Hid (Below w4.heap.size w4 x4) := D4.out.trans (hb4.mono D4.out.size); clear hb4)
  try go_wp2_with fail
  refine hK.out _ _ (HKP.out _ D5.out) (fun hHeld => ?_)
  clear hK hOld
  try simp only [Act.put, List.setIfInBounds_toArray, List.set_cons_zero, List.set_cons_succ]
  refine wpAnyH_take (i := 10) (oi := ?oR_11_10) (v := ?vR_11_10) ?eR_11_10 (by kernel_rfl) (by kernel_rfl) (by kernel_rfl) ?qR_11_10 (Or.inl ⟨?wR_11_10, ?yR_11_10⟩) (by assumption) ?rR_11_10
  case eR_11_10 => simp only [List.getElem?_toArray, List.getElem?_cons_succ, List.getElem?_cons_zero]; rfl
  case wR_11_10 => rfl
  case qR_11_10 => exact fun _ _ _ h => h
  case yR_11_10 => (intro w hSw; (try dsimp only at hSw); go_simp; try with_reducible rfl)
  try simp only [Act.put, List.setIfInBounds_toArray, List.set_cons_zero, List.set_cons_succ]
  refine wpAnyH_take (i := 11) (oi := ?oR_12_11) (v := ?vR_12_11) ?eR_12_11 (by kernel_rfl) (by kernel_rfl) (by kernel_rfl) ?qR_12_11 (Or.inl ⟨?wR_12_11, ?yR_12_11⟩) (by assumption) ?rR_12_11
  case eR_12_11 => simp only [List.getElem?_toArray, List.getElem?_cons_succ, List.getElem?_cons_zero]; rfl
  case wR_12_11 => rfl
  case qR_12_11 => exact fun _ _ _ h => h
  case yR_12_11 => (intro w hSw; (try dsimp only at hSw); go_simp; try with_reducible rfl)
  try simp only [Act.put, List.setIfInBounds_toArray, List.set_cons_zero, List.set_cons_succ]
  refine wpAnyH_take (i := 12) (oi := ?oR_13_12) (v := ?vR_13_12) ?eR_13_12 (by kernel_rfl) (by kernel_rfl) (by kernel_rfl) ?qR_13_12 (Or.inl ⟨?wR_13_12, ?yR_13_12⟩) (by assumption) ?rR_13_12
  case eR_13_12 => simp only [List.getElem?_toArray, List.getElem?_cons_succ, List.getElem?_cons_zero]; rfl
  case wR_13_12 => rfl
  case qR_13_12 => exact fun _ _ _ h => h
  case yR_13_12 => (intro w hSw; (try dsimp only at hSw); go_simp; try with_reducible rfl)
  try simp only [Act.put, List.setIfInBounds_toArray, List.set_cons_zero, List.set_cons_succ]
  have hOld := hHeld
  clear hHeld
  refine wpAnyH_ready (rs := [13]) (by kernel_rfl) (by simp) ?_
  refine AllReadyH.cons (o := ?oR_14_13) ?eR_14_13 (fun K hK => ?_) AllReadyH.nil
  case eR_14_13 => simp only [List.getElem?_toArray, List.getElem?_cons_succ, List.getElem?_cons_zero]; rfl
  go_simp
  (go_at_call 20; refine Calls.mono (psetup_any _) ?_; rintro _ x5 ⟨rfl, hb5⟩; have D6 : Hid (Below w4.heap.size w4 x5) := D5.out.trans (hb5.mono D5.out.size); clear hb5)
  try go_wp2_with fail
  refine hK.out _ _ (HKP.out _ D6.out) (fun hHeld => ?_)
  clear hK hOld
  try simp only [Act.put, List.setIfInBounds_toArray, List.set_cons_zero, List.set_cons_succ]
  have hOld := hHeld
  clear hHeld
  refine wpAnyH_ready (rs := [14]) (by kernel_rfl) (by simp) ?_
  refine AllReadyH.cons (o := ?oR_15_14) ?eR_15_14 (fun K hK => ?_) AllReadyH.nil
  case eR_15_14 => simp only [List.getElem?_toArray, List.getElem?_cons_succ, List.getElem?_cons_zero]; rfl
  go_simp
  (go_at_call 21; refine Calls.mono (bound_at bd4 _) ?_; rintro _ x6 ⟨rfl, hb6⟩; have D7 : Hid (Below w4.heap.size w4 x6) := D6.out.trans (hb6.mono D6.out.size); clear hb6)
  try go_wp2_with fail
  refine hK.out _ _ (HKP.out _ D7.out) (fun hHeld => ?_)
  clear hK hOld
  try simp only [Act.put, List.setIfInBounds_toArray, List.set_cons_zero, List.set_cons_succ]
  refine wpAnyH_take (i := 15) (oi := ?oR_16_15) (v := ?vR_16_15) ?eR_16_15 (by kernel_rfl) (by kernel_rfl) (by kernel_rfl) ?qR_16_15 (Or.inl ⟨?wR_16_15, ?yR_16_15⟩) (by assumption) ?rR_16_15
  case eR_16_15 => simp only [List.getElem?_toArray, List.getElem?_cons_succ, List.getElem?_cons_zero]; rfl
  case wR_16_15 => rfl
  case qR_16_15 => exact fun _ _ _ h => h
  case yR_16_15 => (intro w hSw; (try dsimp only at hSw); go_simp; try with_reducible rfl)
  try simp only [Act.put, List.setIfInBounds_toArray, List.set_cons_zero, List.set_cons_succ]
  refine wpAnyH_take (i := 16) (oi := ?oR_17_16) (v := ?vR_17_16) ?eR_17_16 (by kernel_rfl) (by kernel_rfl) (by kernel_rfl) ?qR_17_16 (Or.inl ⟨?wR_17_16, ?yR_17_16⟩) (by assumption) ?rR_17_16
  case eR_17_16 => simp only [List.getElem?_toArray, List.getElem?_cons_succ, List.getElem?_cons_zero]; rfl
  case wR_17_16 => rfl
  case qR_17_16 => exact fun _ _ _ h => h
  case yR_17_16 => (intro w hSw; (try dsimp only at hSw); go_simp; try with_reducible rfl)
  try simp only [Act.put, List.setIfInBounds_toArray, List.set_cons_zero, List.set_cons_succ]
  refine wpAnyH_take (i := 17) (oi := ?oR_18_17) (v := ?vR_18_17) ?eR_18_17 (by kernel_rfl) (by kernel_rfl) (by kernel_rfl) ?qR_18_17 (Or.inl ⟨?wR_18_17, ?yR_18_17⟩) (by assumption) ?rR_18_17
  case eR_18_17 => simp only [List.getElem?_toArray, List.getElem?_cons_succ, List.getElem?_cons_zero]; rfl
  case wR_18_17 => rfl
  case qR_18_17 => exact fun _ _ _ h => h
  case yR_18_17 => (intro w hSw; (try dsimp only at hSw); go_simp; try with_reducible rfl)
  try simp only [Act.put, List.setIfInBounds_toArray, List.set_cons_zero, List.set_cons_succ]
  refine wpAnyH_take (i := 18) (oi := ?oR_19_18) (v := ?vR_19_18) ?eR_19_18 (by kernel_rfl) (by kernel_rfl) (by kernel_rfl) ?qR_19_18 (Or.inl ⟨?wR_19_18, ?yR_19_18⟩) (by assumption) ?rR_19_18
  case eR_19_18 => simp only [List.getElem?_toArray, List.getElem?_cons_succ, List.getElem?_cons_zero]; rfl
  case wR_19_18 => rfl
  case qR_19_18 => exact fun _ _ _ h => h
  case yR_19_18 => (intro w hSw; (try dsimp only at hSw); go_simp; try with_reducible rfl)
  try simp only [Act.put, List.setIfInBounds_toArray, List.set_cons_zero, List.set_cons_succ]
  have hOld := hHeld
  clear hHeld
  refine wpAnyH_ready (rs := [19]) (by kernel_rfl) (by simp) ?_
  refine AllReadyH.cons (o := ?oR_20_19) ?eR_20_19 (fun K hK => ?_) AllReadyH.nil
  case eR_20_19 => simp only [List.getElem?_toArray, List.getElem?_cons_succ, List.getElem?_cons_zero]; rfl
  go_simp
  (go_at_call 20; refine Calls.mono (psetup_any _) ?_; rintro _ x7 ⟨rfl, hb7⟩; have D8 : Hid (Below w4.heap.size w4 x7) := D7.out.trans (hb7.mono D7.out.size); clear hb7)
  try go_wp2_with fail
  refine hK.out _ _ (HKP.out _ D8.out) (fun hHeld => ?_)
  clear hK hOld
  try simp only [Act.put, List.setIfInBounds_toArray, List.set_cons_zero, List.set_cons_succ]
  have hOld := hHeld
  clear hHeld
  refine wpAnyH_ready (rs := [20]) (by kernel_rfl) (by simp) ?_
  refine AllReadyH.cons (o := ?oR_21_20) ?eR_21_20 (fun K hK => ?_) AllReadyH.nil
  case eR_21_20 => simp only [List.getElem?_toArray, List.getElem?_cons_succ, List.getElem?_cons_zero]; rfl
  go_simp
  (go_at_call 14; refine Calls.mono (prest_at rest_q3 (.slice (some ⟨lb, 0, none⟩) 5 5) _ (HL4.out.below D8.out) ⟨u64_9, u64_0, u64_0⟩ (by decide)) ?_; rintro _ x8 ⟨rfl, hb8⟩; have D9 : Hid (Below w4.heap.size w4 x8) := D8.out.trans (hb8.mono D8.out.size); clear hb8)
  try go_wp2_with fail
  refine hK.out _ _ (HKP.out _ D9.out) (fun hHeld => ?_)
  clear hK hOld
  try simp only [Act.put, List.setIfInBounds_toArray, List.set_cons_zero, List.set_cons_succ]
  refine wpAnyH_take (i := 21) (oi := ?oR_22_21) (v := ?vR_22_21) ?eR_22_21 (by kernel_rfl) (by kernel_rfl) (by kernel_rfl) ?qR_22_21 (Or.inl ⟨?wR_22_21, ?yR_22_21⟩) (by assumption) ?rR_22_21
  case eR_22_21 => simp only [List.getElem?_toArray, List.getElem?_cons_succ, List.getElem?_cons_zero]; rfl
  case wR_22_21 => rfl
  case qR_22_21 => exact fun _ _ _ h => h
  case yR_22_21 => (intro w hSw; (try dsimp only at hSw); go_simp; try with_reducible rfl)
  try simp only [Act.put, List.setIfInBounds_toArray, List.set_cons_zero, List.set_cons_succ]
  refine wpAnyH_take (i := 22) (oi := ?oR_23_22) (v := ?vR_23_22) ?eR_23_22 (by kernel_rfl) (by kernel_rfl) (by kernel_rfl) ?qR_23_22 (Or.inl ⟨?wR_23_22, ?yR_23_22⟩) (by assumption) ?rR_23_22
  case eR_23_22 => simp only [List.getElem?_toArray, List.getElem?_cons_succ, List.getElem?_cons_zero]; rfl
  case wR_23_22 => rfl
  case qR_23_22 => exact fun _ _ _ h => h
  case yR_23_22 => (intro w hSw; (try dsimp only at hSw); go_simp; try with_reducible rfl)
  try simp only [Act.put, List.setIfInBounds_toArray, List.set_cons_zero, List.set_cons_succ]
  refine wpAnyH_take (i := 23) (oi := ?oR_24_23) (v := ?vR_24_23) ?eR_24_23 (by kernel_rfl) (by kernel_rfl) (by kernel_rfl) ?qR_24_23 (Or.inl ⟨?wR_24_23, ?yR_24_23⟩) (by assumption) ?rR_24_23
  case eR_24_23 => simp only [List.getElem?_toArray, List.getElem?_cons_succ, List.getElem?_cons_zero]; rfl
  case wR_24_23 => rfl
  case qR_24_23 => exact fun _ _ _ h => h
  case yR_24_23 => (intro w hSw; (try dsimp only at hSw); go_simp; try with_reducible rfl)
  try simp only [Act.put, List.setIfInBounds_toArray, List.set_cons_zero, List.set_cons_succ]
  refine wpAnyH_take (i := 24) (oi := ?oR_25_24) (v := ?vR_25_24) ?eR_25_24 (by kernel_rfl) (by kernel_rfl) (by kernel_rfl) ?qR_25_24 (Or.inl ⟨?wR_25_24, ?yR_25_24⟩) (by assumption) ?rR_25_24
  case eR_25_24 => simp only [List.getElem?_toArray, List.getElem?_cons_succ, List.getElem?_cons_zero]; rfl
  case wR_25_24 => rfl
  case qR_25_24 => exact fun _ _ _ h => h
  case yR_25_24 => (intro w hSw; (try dsimp only at hSw); go_simp; try with_reducible rfl)
  try simp only [Act.put, List.setIfInBounds_toArray, List.set_cons_zero, List.set_cons_succ]
  have hOld := hHeld
  clear hHeld
  refine wpAnyH_ready (rs := [25]) (by kernel_rfl) (by simp) ?_
  refine AllReadyH.cons (o := ?oR_26_25) ?eR_26_25 (fun K hK => ?_) AllReadyH.nil
  case eR_26_25 => simp only [List.getElem?_toArray, List.getElem?_cons_succ, List.getElem?_cons_zero]; rfl
  go_simp
  (go_at_call 12; refine Calls.mono (setup_at stp_zero _) ?_; rintro _ x9 ⟨rfl, hb9⟩; have D10 : Hid (Below w4.heap.size w4 x9) := D9.out.trans (hb9.mono D9.out.size); clear hb9)
  try go_wp2_with fail
  refine hK.out _ _ (HKP.out _ D10.out) (fun hHeld => ?_)
  clear hK hOld
  try simp only [Act.put, List.setIfInBounds_toArray, List.set_cons_zero, List.set_cons_succ]
  refine wpAnyH_take (i := 26) (oi := ?oR_27_26) (v := ?vR_27_26) ?eR_27_26 (by kernel_rfl) (by kernel_rfl) (by kernel_rfl) ?qR_27_26 (Or.inl ⟨?wR_27_26, ?yR_27_26⟩) (by assumption) ?rR_27_26
  case eR_27_26 => simp only [List.getElem?_toArray, List.getElem?_cons_succ, List.getElem?_cons_zero]; rfl
  case wR_27_26 => rfl
  case qR_27_26 => exact fun _ _ _ h => h
  case yR_27_26 => (intro w hSw; (try dsimp only at hSw); go_simp; try with_reducible rfl)
  try simp only [Act.put, List.setIfInBounds_toArray, List.set_cons_zero, List.set_cons_succ]
  refine wpAnyH_take (i := 27) (oi := ?oR_28_27) (v := ?vR_28_27) ?eR_28_27 (by kernel_rfl) (by kernel_rfl) (by kernel_rfl) ?qR_28_27 (Or.inl ⟨?wR_28_27, ?yR_28_27⟩) (by assumption) ?rR_28_27
  case eR_28_27 => simp only [List.getElem?_toArray, List.getElem?_cons_succ, List.getElem?_cons_zero]; rfl
  case wR_28_27 => rfl
  case qR_28_27 => exact fun _ _ _ h => h
  case yR_28_27 => (intro w hSw; (try dsimp only at hSw); go_simp; try with_reducible rfl)
  try simp only [Act.put, List.setIfInBounds_toArray, List.set_cons_zero, List.set_cons_succ]
  refine wpAnyH_take (i := 28) (oi := ?oR_29_28) (v := ?vR_29_28) ?eR_29_28 (by kernel_rfl) (by kernel_rfl) (by kernel_rfl) ?qR_29_28 (Or.inl ⟨?wR_29_28, ?yR_29_28⟩) (by assumption) ?rR_29_28
  case eR_29_28 => simp only [List.getElem?_toArray, List.getElem?_cons_succ, List.getElem?_cons_zero]; rfl
  case wR_29_28 => rfl
  case qR_29_28 => exact fun _ _ _ h => h
  case yR_29_28 => (intro w hSw; (try dsimp only at hSw); go_simp; try with_reducible rfl)
  try simp only [Act.put, List.setIfInBounds_toArray, List.set_cons_zero]
  refine wpAnyH_done (by kernel_rfl) ?_ _
  go_wp2_with fail
  go_ret
  exact ⟨rfl, HB4.out.trans (D10.out.mono HB4.out.size)⟩
end Go.Proofs.Ytkcohhldmhdcfaa
