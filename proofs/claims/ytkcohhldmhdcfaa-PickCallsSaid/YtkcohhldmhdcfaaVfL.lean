/- The law PickCalls: its walk. -/
import Derived.Test.YtkcohhldmhdcfaaVfK
namespace Go.Proofs.Ytkcohhldmhdcfaa
open Go.RowKit

/-- Both answers of Next tell one job. -/
theorem both_next (v : Ver) (s : Stp) : ∃ (lev : Int) (b : Bool) (U Lo : List Fil) (ls ms : List UInt8), (nextW v s = 0 ∨ nextW v s ≠ 0) ∧ ((chkW v = 0 → U.length ≤ 1000000) ∧ (chkW v = 0 → Lo.length ≤ 1000000) ∧ (chkW v ≠ 0 → U = [] ∧ Lo = [])) ∧
    (∀ (w : World) (x : Ending) (w' : World), NextPost v s w x w' → ∃ u lo le mo, x = .returned (.tuple #[.agg (jobC lev u lo le mo b).toArray, .int .i64 (nextW v s)]) ∧ JobAt Any w' U Lo ls ms u lo le mo ∧ Below w.heap.size w w') ∧
    (∀ (w : World) (x : Ending) (w' : World), ((nextW v s ≠ 0 → x = .returned (.tuple #[.agg job0.toArray, .int .i64 (nextW v s)])) ∧
      (nextW v s = 0 → ∃ u lo le mo, x = .returned (.tuple #[.agg (jobC (jLev v s : Int) u lo le mo (jBot v (jLev v s))).toArray, .int .i64 0]) ∧ JobAt Any w' (jUp v (jLev v s)) (jLo v (jLev v s)) (leastOf (jAll v (jLev v s))) (mostOf (jAll v (jLev v s))) u lo le mo) ∧ Below w.heap.size w w') →
      ∃ u lo le mo, x = .returned (.tuple #[.agg (jobC lev u lo le mo b).toArray, .int .i64 (nextW v s)]) ∧ JobAt Any w' U Lo ls ms u lo le mo ∧ Below w.heap.size w w') := by
  by_cases h : nextW v s = 0
  · refine ⟨(jLev v s : Int), jBot v (jLev v s), jUp v (jLev v s), jLo v (jLev v s), leastOf (jAll v (jLev v s)), mostOf (jAll v (jLev v s)), .inl h, ⟨fun hc => ?_, fun hc => Nat.le_trans (over_le v _ _ _ hc) (by decide), fun hc => absurd h (by rw [nextW_chk hc]; exact hc)⟩, fun w x w' ⟨_, hy, hb⟩ => ?_, fun w x w' ⟨_, hy, hb⟩ => ?_⟩
    · refine Nat.le_trans (jUp_le v (jLev v s)) ?_
      have h5 := (good_small hc).1
      have := Nat.le_trans (lev_le_cnt (ls := v.levels) (i := 0) (by omega)) (chkW_good hc).2.2
      omega
    · obtain ⟨u, lo, le, mo, rfl, h1, h2, h3, h4⟩ := hy h
      exact ⟨u, lo, le, mo, by rw [h], ⟨h1.any, h2.any, h3.any, h4.any⟩, hb⟩
    · obtain ⟨u, lo, le, mo, rfl, h1⟩ := hy h
      exact ⟨u, lo, le, mo, by rw [h], h1, hb⟩
  · exact ⟨0, false, [], [], [], [], .inr h, ⟨fun _ => Nat.zero_le _, fun _ => Nat.zero_le _, fun _ => ⟨rfl, rfl⟩⟩, fun w x w' ⟨hy, _, hb⟩ => ⟨_, _, _, _, hy h, ⟨Rw.nil _ _ _, Rw.nil _ _ _, Bytes.nil _ _, Bytes.nil _ _⟩, hb⟩, fun w x w' ⟨hy, _, hb⟩ => ⟨_, _, _, _, hy h, ⟨Rw.nil _ _ _, Rw.nil _ _ _, Bytes.nil _ _, Bytes.nil _ _⟩, hb⟩⟩
theorem both_len {v : Ver} {U Lo : List Fil} (h : (chkW v = 0 → U.length ≤ 1000000) ∧ (chkW v = 0 → Lo.length ≤ 1000000) ∧ (chkW v ≠ 0 → U = [] ∧ Lo = [])) : U.length ≤ 1000000 ∧ Lo.length ≤ 1000000 := by
  by_cases hc : chkW v = 0
  · exact ⟨h.1 hc, h.2.1 hc⟩
  · obtain ⟨rfl, rfl⟩ := h.2.2 hc
    exact ⟨Nat.zero_le _, Nat.zero_le _⟩
theorem JobAt.any {w : World} {F : Nat → Prop} {U Lo : List Fil} {ls ms : List UInt8} {u lo le mo : Value} (h : JobAt F w U Lo ls ms u lo le mo) : JobAt Any w U Lo ls ms u lo le mo := ⟨h.u.any, h.lo.any, h.le.any, h.mo.any⟩
theorem job_cells {w : World} {rb : Nat} {T : TypeId} {lev : Int} {u lo le mo : Value} {b : Bool} (h : Blk w rb (jobC lev u lo le mo b).toArray T) : w.cell? ⟨rb, 0, none⟩ = some (.int .i64 lev) ∧ w.cell? ⟨rb, 1, none⟩ = some u ∧ w.cell? ⟨rb, 2, none⟩ = some lo ∧ w.cell? ⟨rb, 3, none⟩ = some le ∧ w.cell? ⟨rb, 4, none⟩ = some mo ∧ w.cell? ⟨rb, 5, none⟩ = some (.bool b) :=
  ⟨h.cell rfl, h.cell rfl, h.cell rfl, h.cell rfl, h.cell rfl, h.cell rfl⟩
theorem setup_eq {s : Stp} {c : Int} (hc : stpW s = c) (w : World) :
    Calls Try.prog 12 #[.agg (stpCells s).toArray] w fun e w' => e = .returned (.int .i64 c) ∧ Below w.heap.size w w' := by subst hc; exact setup_any s w

set_option maxRecDepth 100000 in
set_option maxHeartbeats 16000000 in
theorem pickCalls_any (F : Nat → Prop) (v : Ver) (s : Stp) (lv : Value) (level : Int) (w : World) (h : Rw (rowK filK) F w lv v.levels) (hw : v.wf) (hle : v.levels.length ≤ 140737488355328) (hn : ∀ i, i < v.levels.length → (lat v.levels i).length ≤ 140737488355328) :
    Calls Try.prog 5 #[.agg (verCells v lv).toArray, .agg (stpCells s).toArray, .int .i64 level] w fun e w' => e = .returned (.bool true) ∧ Below w.heap.size w w' := by
  have HSM := Lib.hid (fun w' (hb : Below w.heap.size w w') => psmall_any F v lv w' (h.below hb) hle hn)
  have HNX := Lib.hid (fun (hc : cntTo v.levels v.levels.length ≤ 100) w' (hb : Below w.heap.size w w') => next_any F v s lv w' (h.below hb) hw (by omega))
  have HRN := Lib.hid (fun (hc : cntTo v.levels v.levels.length ≤ 100) w' (hb : Below w.heap.size w w') => rnext_any F v s lv w' (h.below hb) hw hc)
  have HRE := Lib.hid (fun (hc : cntTo v.levels v.levels.length ≤ 100) w' (hb : Below w.heap.size w w') => rest_any F v s lv w' (h.below hb) hw (by omega))
  have HRR := Lib.hid (fun (hc : cntTo v.levels v.levels.length ≤ 100) w' (hb : Below w.heap.size w w') => rrest_any F v s lv w' (h.below hb) hw hc)
  have HSC := Lib.hid (fun (hc : cntTo v.levels v.levels.length ≤ 100) w' (hb : Below w.heap.size w w') => pscore_any F v s lv level w' (h.below hb) hw (by omega))
  have HRS := Lib.hid (fun (hc : cntTo v.levels v.levels.length ≤ 100) w' (hb : Below w.heap.size w w') => rscore_any F v s lv level w' (h.below hb) hw hc)
  have HST := Lib.hid (fun w' => setup_any s w')
  have HRT := Lib.hid (fun w' => rsetup_any s w')
  have HBD := Lib.hid (fun w' => bound_any s level w')
  have HRB := Lib.hid (fun w' => rbound_any s level w')
  obtain ⟨xa, ca, rfl⟩ := h.isSlice
  clear h hw hle hn
  obtain ⟨lev, bt, U, Lo, ls, ms, -, hlen, HP1, HP2⟩ := both_next v s
  obtain ⟨hU, hLo⟩ := both_len hlen
  have HP1 := Lib.hid HP1
  have HP2 := Lib.hid HP2
  clear hlen
  obtain ⟨m, hm⟩ : ∃ m, v.levels.length = m := ⟨_, rfl⟩
  have HM := Lib.hid hm
  rw [hm] at HSM HNX HRN HRE HRR HSC HRS ⊢
  clear hm
  obtain ⟨nx, hnx⟩ : ∃ c, nextW v s = c := ⟨_, rfl⟩
  obtain ⟨sw, hsw⟩ : ∃ c, stpW s = c := ⟨_, rfl⟩
  obtain ⟨bw, hbw⟩ : ∃ c, boundW s level = c := ⟨_, rfl⟩
  obtain ⟨sc, hsc⟩ : ∃ c, scoreB v s level = c := ⟨_, rfl⟩
  obtain ⟨rs, hrs⟩ : ∃ c, restB v s = c := ⟨_, rfl⟩
  have HNV := Lib.hid hnx
  rw [hsw] at HST HRT
  rw [hbw] at HBD HRB
  rw [hsc] at HSC HRS
  rw [hrs] at HRE HRR
  clear hnx hsw hbw hsc hrs
  unfold verCells at HSM HNX HRN HRE HRR HSC HRS ⊢
  unfold stpCells at HNX HRN HRE HRR HSC HRS HST HRT HBD HRB ⊢
  go_enter Try.func5, Try.ntmps5
  go_upto_region 1 with fail
  refine wp_gen fun w1 hw1 => ?_
  have HX1 : Hid (Boxed w1 w.heap.size (w.heap.size + 1) v (.slice xa m ca) s) := by rw [hw1]; exact boxed_two _ _ _ _
  have HW1 : Hid (Below w.heap.size w w1) := by rw [hw1]; exact below_two _ _ _
  clear hw1
  obtain ⟨b1, hb1⟩ : ∃ b, w.heap.size = b := ⟨_, rfl⟩
  obtain ⟨b2, hb2⟩ : ∃ b, w.heap.size + 1 = b := ⟨_, rfl⟩
  rw [hb2, hb1] at HX1 ⊢
  clear hb1 hb2
  go_wp2_with fail
  refine Calls.mono (plives_any w1) ?_
  rintro _ w2 ⟨rfl, hb⟩
  have HX2 := Lib.hid (HX1.out.below hb)
  have HW2 : Hid (Below w.heap.size w w2) := HW1.out.trans (hb.mono HW1.out.size)
  clear hb HX1 HW1
  obtain ⟨x0, x1, x2, x3, -, -, -⟩ := HX2.out.cells
  go_wp2_with fail
  clear x0 x1 x2 x3
  refine Calls.mono (HSM.out _ HW2.out) ?_
  rintro _ w3 ⟨sm, rfl, hsm, hb⟩
  have HX3 := Lib.hid (HX2.out.below hb)
  have HW3 : Hid (Below w.heap.size w w3) := HW2.out.trans (hb.mono HW2.out.size)
  clear hb HX2 HW2 HSM
  cases sm with
  | false =>
    clear hsm
    go_wp2_with fail
    go_ret
    exact ⟨rfl, HW3.out⟩
  | true =>
  obtain ⟨-, hcn⟩ := hsm rfl
  rw [HM.out] at hcn
  have HNX := Lib.hid (HNX.out hcn)
  have HRN := Lib.hid (HRN.out hcn)
  have HRE := Lib.hid (HRE.out hcn)
  have HRR := Lib.hid (HRR.out hcn)
  have HSC := Lib.hid (HSC.out hcn)
  have HRS := Lib.hid (HRS.out hcn)
  clear hsm hcn
  obtain ⟨x0, x1, x2, x3, x4, x5, x6⟩ := HX3.out.cells
  go_wp2_with fail
  clear x0 x1 x2 x3 x4 x5 x6
  refine Calls.mono (HNX.out _ HW3.out) ?_
  intro e4 w4 h4
  obtain ⟨u1, o1, l1, m1, rfl, hj, hb⟩ := HP1.out _ _ _ h4
  rw [HNV.out]
  have HX4 := Lib.hid (HX3.out.below hb)
  have HW4 : Hid (Below w.heap.size w w4) := HW3.out.trans (hb.mono HW3.out.size)
  have HJ4 := Lib.hid hj
  obtain ⟨ua, uc, rfl⟩ := hj.u.isSlice
  obtain ⟨oa, oc, rfl⟩ := hj.lo.isSlice
  obtain ⟨la, lc, rfl⟩ := hj.le.isSlice
  obtain ⟨ma, mc, rfl⟩ := hj.mo.isSlice
  clear h4 hj hb HX3 HW3 HNX HP1
  unfold jobC
  go_upto_region 6 with fail
  refine wp_gen fun w5 hw5 => ?_
  have hb : Below w4.heap.size w4 w5 := by rw [hw5]; exact (Below.refl _ _).alloc (Nat.le_refl _) _
  have HK5 : Hid (Blk w5 w4.heap.size (jobC lev (.slice ua U.length uc) (.slice oa Lo.length oc) (.slice la ls.length lc) (.slice ma ms.length mc) bt).toArray 36) := by rw [hw5]; exact Blk.at_new rfl rfl
  have HX5 := Lib.hid (HX4.out.below hb)
  have HW5 : Hid (Below w.heap.size w w5) := HW4.out.trans (hb.mono HW4.out.size)
  have HJ5 := Lib.hid (HJ4.out.below hb)
  clear hw5 hb HX4 HW4 HJ4
  generalize w4.heap.size = j1 at *
  obtain ⟨x0, x1, x2, x3, x4, x5, x6⟩ := HX5.out.cells
  go_wp2_with fail
  clear x0 x1 x2 x3 x4 x5 x6
  refine Calls.mono (HRN.out _ HW5.out) ?_
  intro e6 w6 h6
  obtain ⟨u2, o2, l2, m2, rfl, hj, hb⟩ := HP2.out _ _ _ h6
  rw [HNV.out]
  have HX6 := Lib.hid (HX5.out.below hb)
  have HW6 : Hid (Below w.heap.size w w6) := HW5.out.trans (hb.mono HW5.out.size)
  have HJ6 := Lib.hid (HJ5.out.below hb)
  have HK6 := Lib.hid (HK5.out.below hb HK5.out.lt)
  have HI6 := Lib.hid hj
  obtain ⟨ua2, uc2, rfl⟩ := hj.u.isSlice
  obtain ⟨oa2, oc2, rfl⟩ := hj.lo.isSlice
  obtain ⟨la2, lc2, rfl⟩ := hj.le.isSlice
  obtain ⟨ma2, mc2, rfl⟩ := hj.mo.isSlice
  clear h6 hj hb HX5 HW5 HRN HP2 HJ5 HK5
  unfold jobC
  go_upto_region 7 with fail
  refine wp_gen fun w7 hw7 => ?_
  have hb : Below w6.heap.size w6 w7 := by rw [hw7]; exact (Below.refl _ _).alloc (Nat.le_refl _) _
  have HL7 : Hid (Blk w7 w6.heap.size (jobC lev (.slice ua2 U.length uc2) (.slice oa2 Lo.length oc2) (.slice la2 ls.length lc2) (.slice ma2 ms.length mc2) bt).toArray 36) := by rw [hw7]; exact Blk.at_new rfl rfl
  have HX7 := Lib.hid (HX6.out.below hb)
  have HW7 : Hid (Below w.heap.size w w7) := HW6.out.trans (hb.mono HW6.out.size)
  have HJ7 := Lib.hid (HJ6.out.below hb)
  have HI7 := Lib.hid (HI6.out.below hb)
  have HK7 := Lib.hid (HK6.out.below hb HK6.out.lt)
  clear hw7 hb HX6 HW6 HJ6 HI6 HK6
  generalize w6.heap.size = j2 at *
  have HKP : Hid (∀ W, Below w7.heap.size w7 W → (W.cell? ⟨b1, 0, none⟩ = some (.slice xa m ca) ∧ W.cell? ⟨b1, 1, none⟩ = some (.int .u64 v.next) ∧ W.cell? ⟨b1, 2, none⟩ = some (.int .u64 v.seq) ∧ W.cell? ⟨b1, 3, none⟩ = some (.int .u64 v.log) ∧ W.cell? ⟨b2, 0, none⟩ = some (.int .i64 s.trig) ∧ W.cell? ⟨b2, 1, none⟩ = some (.int .i64 s.base) ∧ W.cell? ⟨b2, 2, none⟩ = some (.int .i64 s.fac) ∧ W.cell? ⟨j1, 0, none⟩ = some (.int .i64 lev) ∧ W.cell? ⟨j1, 1, none⟩ = some (.slice ua U.length uc) ∧ W.cell? ⟨j1, 2, none⟩ = some (.slice oa Lo.length oc) ∧ W.cell? ⟨j1, 3, none⟩ = some (.slice la ls.length lc) ∧ W.cell? ⟨j1, 4, none⟩ = some (.slice ma ms.length mc) ∧ W.cell? ⟨j1, 5, none⟩ = some (.bool bt) ∧ W.cell? ⟨j2, 0, none⟩ = some (.int .i64 lev) ∧ W.cell? ⟨j2, 1, none⟩ = some (.slice ua2 U.length uc2) ∧ W.cell? ⟨j2, 2, none⟩ = some (.slice oa2 Lo.length oc2) ∧ W.cell? ⟨j2, 3, none⟩ = some (.slice la2 ls.length lc2) ∧ W.cell? ⟨j2, 4, none⟩ = some (.slice ma2 ms.length mc2) ∧ W.cell? ⟨j2, 5, none⟩ = some (.bool bt))) := fun W hb => by
    obtain ⟨x0, x1, x2, x3, x4, x5, x6⟩ := (HX7.out.below hb).cells
    obtain ⟨y0, y1, y2, y3, y4, y5⟩ := job_cells (HK7.out.below hb HK7.out.lt)
    obtain ⟨z0, z1, z2, z3, z4, z5⟩ := job_cells (HL7.out.below hb HL7.out.lt)
    exact ⟨x0, x1, x2, x3, x4, x5, x6, y0, y1, y2, y3, y4, y5, z0, z1, z2, z3, z4, z5⟩
  have D0 : Hid (Below w7.heap.size w7 w7.drew) := below_drew (Below.refl _ _)
  refine wp_region_held_drew (S := fun W => (W.cell? ⟨b1, 0, none⟩ = some (.slice xa m ca) ∧ W.cell? ⟨b1, 1, none⟩ = some (.int .u64 v.next) ∧ W.cell? ⟨b1, 2, none⟩ = some (.int .u64 v.seq) ∧ W.cell? ⟨b1, 3, none⟩ = some (.int .u64 v.log) ∧ W.cell? ⟨b2, 0, none⟩ = some (.int .i64 s.trig) ∧ W.cell? ⟨b2, 1, none⟩ = some (.int .i64 s.base) ∧ W.cell? ⟨b2, 2, none⟩ = some (.int .i64 s.fac) ∧ W.cell? ⟨j1, 0, none⟩ = some (.int .i64 lev) ∧ W.cell? ⟨j1, 1, none⟩ = some (.slice ua U.length uc) ∧ W.cell? ⟨j1, 2, none⟩ = some (.slice oa Lo.length oc) ∧ W.cell? ⟨j1, 3, none⟩ = some (.slice la ls.length lc) ∧ W.cell? ⟨j1, 4, none⟩ = some (.slice ma ms.length mc) ∧ W.cell? ⟨j1, 5, none⟩ = some (.bool bt) ∧ W.cell? ⟨j2, 0, none⟩ = some (.int .i64 lev) ∧ W.cell? ⟨j2, 1, none⟩ = some (.slice ua2 U.length uc2) ∧ W.cell? ⟨j2, 2, none⟩ = some (.slice oa2 Lo.length oc2) ∧ W.cell? ⟨j2, 3, none⟩ = some (.slice la2 ls.length lc2) ∧ W.cell? ⟨j2, 4, none⟩ = some (.slice ma2 ms.length mc2) ∧ W.cell? ⟨j2, 5, none⟩ = some (.bool bt))) (by kernel_rfl) (HKP.out _ D0.out) (fun hHeld => ?_)
  refine wpAnyH_take (i := 0) (oi := ?oR_1_0) (v := ?vR_1_0) ?eR_1_0 (by kernel_rfl) (by kernel_rfl) (by kernel_rfl) ?qR_1_0 (Or.inl ⟨?wR_1_0, ?yR_1_0⟩) (by assumption) ?rR_1_0
  case eR_1_0 => simp only [List.getElem?_toArray, List.getElem?_cons_zero]; rfl
  case wR_1_0 => rfl
  case qR_1_0 => exact fun _ _ _ h => h
  case yR_1_0 => (intro w hSw; (try dsimp only at hSw); go_simp; try with_reducible rfl)
  try simp only [Act.put, List.setIfInBounds_toArray, List.set_cons_zero, List.set_cons_succ]
  refine wpAnyH_take (i := 1) (oi := ?oR_2_1) (v := ?vR_2_1) ?eR_2_1 (by kernel_rfl) (by kernel_rfl) (by kernel_rfl) ?qR_2_1 (Or.inl ⟨?wR_2_1, ?yR_2_1⟩) (by assumption) ?rR_2_1
  case eR_2_1 => simp only [List.getElem?_toArray, List.getElem?_cons_succ, List.getElem?_cons_zero]; rfl
  case wR_2_1 => rfl
  case qR_2_1 => exact fun _ _ _ h => h
  case yR_2_1 => (intro w hSw; (try dsimp only at hSw); go_simp; try with_reducible rfl)
  try simp only [Act.put, List.setIfInBounds_toArray, List.set_cons_zero, List.set_cons_succ]
  have hOld := hHeld
  clear hHeld
  refine wpAnyH_ready (rs := [2]) (by kernel_rfl) (by simp) ?_
  refine AllReadyH.cons (o := ?oR_3_2) ?eR_3_2 (fun K hK => ?_) AllReadyH.nil
  case eR_3_2 => simp only [List.getElem?_toArray, List.getElem?_cons_succ, List.getElem?_cons_zero]; rfl
  go_simp
  (go_at_call 23; refine Calls.mono (kjob_same Any Any lev bt U Lo ls ms _ _ _ _ _ _ _ _ _ (HJ7.out.below D0.out) (HI7.out.below D0.out) hU hLo) ?_; rintro _ x0 ⟨rfl, hb0⟩; have D1 : Hid (Below w7.heap.size w7 x0) := D0.out.trans (hb0.mono D0.out.size); clear hb0)
  try go_wp2_with fail
  refine hK.out _ _ (HKP.out _ D1.out) (fun hHeld => ?_)
  clear hK hOld
  try simp only [Act.put, List.setIfInBounds_toArray, List.set_cons_zero, List.set_cons_succ]
  refine wpAnyH_take (i := 3) (oi := ?oR_4_3) (v := ?vR_4_3) ?eR_4_3 (by kernel_rfl) (by kernel_rfl) (by kernel_rfl) ?qR_4_3 (Or.inl ⟨?wR_4_3, ?yR_4_3⟩) (by assumption) ?rR_4_3
  case eR_4_3 => simp only [List.getElem?_toArray, List.getElem?_cons_succ, List.getElem?_cons_zero]; rfl
  case wR_4_3 => rfl
  case qR_4_3 => exact fun _ _ _ h => h
  case yR_4_3 => (intro w hSw; (try dsimp only at hSw); go_simp; try with_reducible rfl)
  try simp only [Act.put, List.setIfInBounds_toArray, List.set_cons_zero, List.set_cons_succ]
  refine wpAnyH_take (i := 4) (oi := ?oR_5_4) (v := ?vR_5_4) ?eR_5_4 (by kernel_rfl) (by kernel_rfl) (by kernel_rfl) ?qR_5_4 (Or.inl ⟨?wR_5_4, ?yR_5_4⟩) (by assumption) ?rR_5_4
  case eR_5_4 => simp only [List.getElem?_toArray, List.getElem?_cons_succ, List.getElem?_cons_zero]; rfl
  case wR_5_4 => rfl
  case qR_5_4 => exact fun _ _ _ h => h
  case yR_5_4 => (intro w hSw; (try dsimp only at hSw); go_simp; try with_reducible rfl)
  try simp only [Act.put, List.setIfInBounds_toArray, List.set_cons_zero, List.set_cons_succ]
  refine wpAnyH_take (i := 5) (oi := ?oR_6_5) (v := ?vR_6_5) ?eR_6_5 (by kernel_rfl) (by kernel_rfl) (by kernel_rfl) ?qR_6_5 (Or.inl ⟨?wR_6_5, ?yR_6_5⟩) (by assumption) ?rR_6_5
  case eR_6_5 => simp only [List.getElem?_toArray, List.getElem?_cons_succ, List.getElem?_cons_zero]; rfl
  case wR_6_5 => rfl
  case qR_6_5 => exact fun _ _ _ h => h
  case yR_6_5 => (intro w hSw; (try dsimp only at hSw); go_simp; try with_reducible rfl)
  try simp only [Act.put, List.setIfInBounds_toArray, List.set_cons_zero, List.set_cons_succ]
  refine wpAnyH_take (i := 6) (oi := ?oR_7_6) (v := ?vR_7_6) ?eR_7_6 (by kernel_rfl) (by kernel_rfl) (by kernel_rfl) ?qR_7_6 (Or.inl ⟨?wR_7_6, ?yR_7_6⟩) (by assumption) ?rR_7_6
  case eR_7_6 => simp only [List.getElem?_toArray, List.getElem?_cons_succ, List.getElem?_cons_zero]; rfl
  case wR_7_6 => rfl
  case qR_7_6 => exact fun _ _ _ h => h
  case yR_7_6 => (intro w hSw; (try dsimp only at hSw); go_simp; try with_reducible rfl)
  try simp only [Act.put, List.setIfInBounds_toArray, List.set_cons_zero, List.set_cons_succ]
  refine wpAnyH_take (i := 7) (oi := ?oR_8_7) (v := ?vR_8_7) ?eR_8_7 (by kernel_rfl) (by kernel_rfl) (by kernel_rfl) ?qR_8_7 (Or.inl ⟨?wR_8_7, ?yR_8_7⟩) (by assumption) ?rR_8_7
  case eR_8_7 => simp only [List.getElem?_toArray, List.getElem?_cons_succ, List.getElem?_cons_zero]; rfl
  case wR_8_7 => rfl
  case qR_8_7 => exact fun _ _ _ h => h
  case yR_8_7 => (intro w hSw; (try dsimp only at hSw); go_simp; try with_reducible rfl)
  try simp only [Act.put, List.setIfInBounds_toArray, List.set_cons_zero, List.set_cons_succ]
  refine wpAnyH_take (i := 8) (oi := ?oR_9_8) (v := ?vR_9_8) ?eR_9_8 (by kernel_rfl) (by kernel_rfl) (by kernel_rfl) ?qR_9_8 (Or.inl ⟨?wR_9_8, ?yR_9_8⟩) (by assumption) ?rR_9_8
  case eR_9_8 => simp only [List.getElem?_toArray, List.getElem?_cons_succ, List.getElem?_cons_zero]; rfl
  case wR_9_8 => rfl
  case qR_9_8 => exact fun _ _ _ h => h
  case yR_9_8 => (intro w hSw; (try dsimp only at hSw); go_simp; try with_reducible rfl)
  try simp only [Act.put, List.setIfInBounds_toArray, List.set_cons_zero, List.set_cons_succ]
  refine wpAnyH_take (i := 9) (oi := ?oR_10_9) (v := ?vR_10_9) ?eR_10_9 (by kernel_rfl) (by kernel_rfl) (by kernel_rfl) ?qR_10_9 (Or.inl ⟨?wR_10_9, ?yR_10_9⟩) (by assumption) ?rR_10_9
  case eR_10_9 => simp only [List.getElem?_toArray, List.getElem?_cons_succ, List.getElem?_cons_zero]; rfl
  case wR_10_9 => rfl
  case qR_10_9 => exact fun _ _ _ h => h
  case yR_10_9 => (intro w hSw; (try dsimp only at hSw); go_simp; try with_reducible rfl)
  try simp only [Act.put, List.setIfInBounds_toArray, List.set_cons_zero, List.set_cons_succ]
  refine wpAnyH_take (i := 11) (oi := ?oR_11_11) (v := ?vR_11_11) ?eR_11_11 (by kernel_rfl) (by kernel_rfl) (by kernel_rfl) ?qR_11_11 (Or.inl ⟨?wR_11_11, ?yR_11_11⟩) (by assumption) ?rR_11_11
  case eR_11_11 => simp only [List.getElem?_toArray, List.getElem?_cons_succ, List.getElem?_cons_zero]; rfl
  case wR_11_11 => rfl
  case qR_11_11 => exact fun _ _ _ h => h
  case yR_11_11 => (intro w hSw; (try dsimp only at hSw); go_simp; try with_reducible rfl)
  try simp only [Act.put, List.setIfInBounds_toArray, List.set_cons_zero, List.set_cons_succ]
  have hOld := hHeld
  clear hHeld
  refine wpAnyH_ready (rs := [10]) (by kernel_rfl) (by simp) ?_
  refine AllReadyH.cons (o := ?oR_12_10) ?eR_12_10 (fun K hK => ?_) AllReadyH.nil
  case eR_12_10 => simp only [List.getElem?_toArray, List.getElem?_cons_succ, List.getElem?_cons_zero]; rfl
  go_simp
  (go_at_call 12; refine Calls.mono (HST.out _) ?_; rintro _ x1 ⟨rfl, hb1⟩; have D2 : Hid (Below w7.heap.size w7 x1) := D1.out.trans (hb1.mono D1.out.size); clear hb1)
  try go_wp2_with fail
  refine hK.out _ _ (HKP.out _ D2.out) (fun hHeld => ?_)
  clear hK hOld
  try simp only [Act.put, List.setIfInBounds_toArray, List.set_cons_zero, List.set_cons_succ]
  have hOld := hHeld
  clear hHeld
  refine wpAnyH_ready (rs := [12]) (by kernel_rfl) (by simp) ?_
  refine AllReadyH.cons (o := ?oR_13_12) ?eR_13_12 (fun K hK => ?_) AllReadyH.nil
  case eR_13_12 => simp only [List.getElem?_toArray, List.getElem?_cons_succ, List.getElem?_cons_zero]; rfl
  go_simp
  (go_at_call 24; refine Calls.mono (HRT.out _) ?_; rintro _ x2 ⟨rfl, hb2⟩; have D3 : Hid (Below w7.heap.size w7 x2) := D2.out.trans (hb2.mono D2.out.size); clear hb2)
  try go_wp2_with fail
  refine hK.out _ _ (HKP.out _ D3.out) (fun hHeld => ?_)
  clear hK hOld
  try simp only [Act.put, List.setIfInBounds_toArray, List.set_cons_zero, List.set_cons_succ]
  refine wpAnyH_take (i := 13) (oi := ?oR_14_13) (v := ?vR_14_13) ?eR_14_13 (by kernel_rfl) (by kernel_rfl) (by kernel_rfl) ?qR_14_13 (Or.inl ⟨?wR_14_13, ?yR_14_13⟩) (by assumption) ?rR_14_13
  case eR_14_13 => simp only [List.getElem?_toArray, List.getElem?_cons_succ, List.getElem?_cons_zero]; rfl
  case wR_14_13 => rfl
  case qR_14_13 => exact fun _ _ _ h => h
  case yR_14_13 => (intro w hSw; (try dsimp only at hSw); go_simp; try with_reducible rfl)
  try simp only [Act.put, List.setIfInBounds_toArray, List.set_cons_zero, List.set_cons_succ]
  refine wpAnyH_take (i := 14) (oi := ?oR_15_14) (v := ?vR_15_14) ?eR_15_14 (by kernel_rfl) (by kernel_rfl) (by kernel_rfl) ?qR_15_14 (Or.inl ⟨?wR_15_14, ?yR_15_14⟩) (by assumption) ?rR_15_14
  case eR_15_14 => simp only [List.getElem?_toArray, List.getElem?_cons_succ, List.getElem?_cons_zero]; rfl
  case wR_15_14 => rfl
  case qR_15_14 => exact fun _ _ _ h => h
  case yR_15_14 => (intro w hSw; (try dsimp only at hSw); go_simp; try with_reducible rfl)
  try simp only [Act.put, List.setIfInBounds_toArray, List.set_cons_zero, List.set_cons_succ]
  refine wpAnyH_take (i := 15) (oi := ?oR_16_15) (v := ?vR_16_15) ?eR_16_15 (by kernel_rfl) (by kernel_rfl) (by kernel_rfl) ?qR_16_15 (Or.inl ⟨?wR_16_15, ?yR_16_15⟩) (by assumption) ?rR_16_15
  case eR_16_15 => simp only [List.getElem?_toArray, List.getElem?_cons_succ, List.getElem?_cons_zero]; rfl
  case wR_16_15 => rfl
  case qR_16_15 => exact fun _ _ _ h => h
  case yR_16_15 => (intro w hSw; (try dsimp only at hSw); go_simp; try with_reducible rfl)
  try simp only [Act.put, List.setIfInBounds_toArray, List.set_cons_zero, List.set_cons_succ]
  refine wpAnyH_take (i := 16) (oi := ?oR_17_16) (v := ?vR_17_16) ?eR_17_16 (by kernel_rfl) (by kernel_rfl) (by kernel_rfl) ?qR_17_16 (Or.inl ⟨?wR_17_16, ?yR_17_16⟩) (by assumption) ?rR_17_16
  case eR_17_16 => simp only [List.getElem?_toArray, List.getElem?_cons_succ, List.getElem?_cons_zero]; rfl
  case wR_17_16 => rfl
  case qR_17_16 => exact fun _ _ _ h => h
  case yR_17_16 => (intro w hSw; (try dsimp only at hSw); go_simp; try with_reducible rfl)
  try simp only [Act.put, List.setIfInBounds_toArray, List.set_cons_zero, List.set_cons_succ]
  refine wpAnyH_take (i := 17) (oi := ?oR_18_17) (v := ?vR_18_17) ?eR_18_17 (by kernel_rfl) (by kernel_rfl) (by kernel_rfl) ?qR_18_17 (Or.inl ⟨?wR_18_17, ?yR_18_17⟩) (by assumption) ?rR_18_17
  case eR_18_17 => simp only [List.getElem?_toArray, List.getElem?_cons_succ, List.getElem?_cons_zero]; rfl
  case wR_18_17 => rfl
  case qR_18_17 => exact fun _ _ _ h => h
  case yR_18_17 => (intro w hSw; (try dsimp only at hSw); go_simp; try with_reducible rfl)
  try simp only [Act.put, List.setIfInBounds_toArray, List.set_cons_zero, List.set_cons_succ]
  refine wpAnyH_take (i := 19) (oi := ?oR_19_19) (v := ?vR_19_19) ?eR_19_19 (by kernel_rfl) (by kernel_rfl) (by kernel_rfl) ?qR_19_19 (Or.inl ⟨?wR_19_19, ?yR_19_19⟩) (by assumption) ?rR_19_19
  case eR_19_19 => simp only [List.getElem?_toArray, List.getElem?_cons_succ, List.getElem?_cons_zero]; rfl
  case wR_19_19 => rfl
  case qR_19_19 => exact fun _ _ _ h => h
  case yR_19_19 => (intro w hSw; (try dsimp only at hSw); go_simp; try with_reducible rfl)
  try simp only [Act.put, List.setIfInBounds_toArray, List.set_cons_zero, List.set_cons_succ]
  refine wpAnyH_take (i := 20) (oi := ?oR_20_20) (v := ?vR_20_20) ?eR_20_20 (by kernel_rfl) (by kernel_rfl) (by kernel_rfl) ?qR_20_20 (Or.inl ⟨?wR_20_20, ?yR_20_20⟩) (by assumption) ?rR_20_20
  case eR_20_20 => simp only [List.getElem?_toArray, List.getElem?_cons_succ, List.getElem?_cons_zero]; rfl
  case wR_20_20 => rfl
  case qR_20_20 => exact fun _ _ _ h => h
  case yR_20_20 => (intro w hSw; (try dsimp only at hSw); go_simp; try with_reducible rfl)
  try simp only [Act.put, List.setIfInBounds_toArray, List.set_cons_zero, List.set_cons_succ]
  have hOld := hHeld
  clear hHeld
  refine wpAnyH_ready (rs := [18]) (by kernel_rfl) (by simp) ?_
  refine AllReadyH.cons (o := ?oR_21_18) ?eR_21_18 (fun K hK => ?_) AllReadyH.nil
  case eR_21_18 => simp only [List.getElem?_toArray, List.getElem?_cons_succ, List.getElem?_cons_zero]; rfl
  go_simp
  (go_at_call 21; refine Calls.mono (HBD.out _) ?_; rintro _ x3 ⟨rfl, hb3⟩; have D4 : Hid (Below w7.heap.size w7 x3) := D3.out.trans (hb3.mono D3.out.size); clear hb3)
  try go_wp2_with fail
  refine hK.out _ _ (HKP.out _ D4.out) (fun hHeld => ?_)
  clear hK hOld
  try simp only [Act.put, List.setIfInBounds_toArray, List.set_cons_zero, List.set_cons_succ]
  have hOld := hHeld
  clear hHeld
  refine wpAnyH_ready (rs := [21]) (by kernel_rfl) (by simp) ?_
  refine AllReadyH.cons (o := ?oR_22_21) ?eR_22_21 (fun K hK => ?_) AllReadyH.nil
  case eR_22_21 => simp only [List.getElem?_toArray, List.getElem?_cons_succ, List.getElem?_cons_zero]; rfl
  go_simp
  (go_at_call 25; refine Calls.mono (HRB.out _) ?_; rintro _ x4 ⟨rfl, hb4⟩; have D5 : Hid (Below w7.heap.size w7 x4) := D4.out.trans (hb4.mono D4.out.size); clear hb4)
  try go_wp2_with fail
  refine hK.out _ _ (HKP.out _ D5.out) (fun hHeld => ?_)
  clear hK hOld
  try simp only [Act.put, List.setIfInBounds_toArray, List.set_cons_zero, List.set_cons_succ]
  refine wpAnyH_take (i := 22) (oi := ?oR_23_22) (v := ?vR_23_22) ?eR_23_22 (by kernel_rfl) (by kernel_rfl) (by kernel_rfl) ?qR_23_22 (Or.inl ⟨?wR_23_22, ?yR_23_22⟩) (by assumption) ?rR_23_22
  case eR_23_22 => simp only [List.getElem?_toArray, List.getElem?_cons_succ, List.getElem?_cons_zero]; rfl
  case wR_23_22 => rfl
  case qR_23_22 => exact fun _ _ _ h => h
  case yR_23_22 => (intro w hSw; (try dsimp only at hSw); go_simp; try with_reducible rfl)
  try simp only [Act.put, List.setIfInBounds_toArray, List.set_cons_zero, List.set_cons_succ]
  refine wpAnyH_take (i := 23) (oi := ?oR_24_23) (v := ?vR_24_23) ?eR_24_23 (by kernel_rfl) (by kernel_rfl) (by kernel_rfl) ?qR_24_23 (Or.inl ⟨?wR_24_23, ?yR_24_23⟩) (by assumption) ?rR_24_23
  case eR_24_23 => simp only [List.getElem?_toArray, List.getElem?_cons_succ, List.getElem?_cons_zero]; rfl
  case wR_24_23 => rfl
  case qR_24_23 => exact fun _ _ _ h => h
  case yR_24_23 => (intro w hSw; (try dsimp only at hSw); go_simp; try with_reducible rfl)
  try simp only [Act.put, List.setIfInBounds_toArray, List.set_cons_zero, List.set_cons_succ]
  refine wpAnyH_take (i := 24) (oi := ?oR_25_24) (v := ?vR_25_24) ?eR_25_24 (by kernel_rfl) (by kernel_rfl) (by kernel_rfl) ?qR_25_24 (Or.inl ⟨?wR_25_24, ?yR_25_24⟩) (by assumption) ?rR_25_24
  case eR_25_24 => simp only [List.getElem?_toArray, List.getElem?_cons_succ, List.getElem?_cons_zero]; rfl
  case wR_25_24 => rfl
  case qR_25_24 => exact fun _ _ _ h => h
  case yR_25_24 => (intro w hSw; (try dsimp only at hSw); go_simp; try with_reducible rfl)
  try simp only [Act.put, List.setIfInBounds_toArray, List.set_cons_zero, List.set_cons_succ]
  refine wpAnyH_take (i := 25) (oi := ?oR_26_25) (v := ?vR_26_25) ?eR_26_25 (by kernel_rfl) (by kernel_rfl) (by kernel_rfl) ?qR_26_25 (Or.inl ⟨?wR_26_25, ?yR_26_25⟩) (by assumption) ?rR_26_25
  case eR_26_25 => simp only [List.getElem?_toArray, List.getElem?_cons_succ, List.getElem?_cons_zero]; rfl
  case wR_26_25 => rfl
  case qR_26_25 => exact fun _ _ _ h => h
  case yR_26_25 => (intro w hSw; (try dsimp only at hSw); go_simp; try with_reducible rfl)
  try simp only [Act.put, List.setIfInBounds_toArray, List.set_cons_zero, List.set_cons_succ]
  refine wpAnyH_take (i := 26) (oi := ?oR_27_26) (v := ?vR_27_26) ?eR_27_26 (by kernel_rfl) (by kernel_rfl) (by kernel_rfl) ?qR_27_26 (Or.inl ⟨?wR_27_26, ?yR_27_26⟩) (by assumption) ?rR_27_26
  case eR_27_26 => simp only [List.getElem?_toArray, List.getElem?_cons_succ, List.getElem?_cons_zero]; rfl
  case wR_27_26 => rfl
  case qR_27_26 => exact fun _ _ _ h => h
  case yR_27_26 => (intro w hSw; (try dsimp only at hSw); go_simp; try with_reducible rfl)
  try simp only [Act.put, List.setIfInBounds_toArray, List.set_cons_zero, List.set_cons_succ]
  refine wpAnyH_take (i := 27) (oi := ?oR_28_27) (v := ?vR_28_27) ?eR_28_27 (by kernel_rfl) (by kernel_rfl) (by kernel_rfl) ?qR_28_27 (Or.inl ⟨?wR_28_27, ?yR_28_27⟩) (by assumption) ?rR_28_27
  case eR_28_27 => simp only [List.getElem?_toArray, List.getElem?_cons_succ, List.getElem?_cons_zero]; rfl
  case wR_28_27 => rfl
  case qR_28_27 => exact fun _ _ _ h => h
  case yR_28_27 => (intro w hSw; (try dsimp only at hSw); go_simp; try with_reducible rfl)
  try simp only [Act.put, List.setIfInBounds_toArray, List.set_cons_zero, List.set_cons_succ]
  refine wpAnyH_take (i := 29) (oi := ?oR_29_29) (v := ?vR_29_29) ?eR_29_29 (by kernel_rfl) (by kernel_rfl) (by kernel_rfl) ?qR_29_29 (Or.inl ⟨?wR_29_29, ?yR_29_29⟩) (by assumption) ?rR_29_29
  case eR_29_29 => simp only [List.getElem?_toArray, List.getElem?_cons_succ, List.getElem?_cons_zero]; rfl
  case wR_29_29 => rfl
  case qR_29_29 => exact fun _ _ _ h => h
  case yR_29_29 => (intro w hSw; (try dsimp only at hSw); go_simp; try with_reducible rfl)
  try simp only [Act.put, List.setIfInBounds_toArray, List.set_cons_zero, List.set_cons_succ]
  refine wpAnyH_take (i := 30) (oi := ?oR_30_30) (v := ?vR_30_30) ?eR_30_30 (by kernel_rfl) (by kernel_rfl) (by kernel_rfl) ?qR_30_30 (Or.inl ⟨?wR_30_30, ?yR_30_30⟩) (by assumption) ?rR_30_30
  case eR_30_30 => simp only [List.getElem?_toArray, List.getElem?_cons_succ, List.getElem?_cons_zero]; rfl
  case wR_30_30 => rfl
  case qR_30_30 => exact fun _ _ _ h => h
  case yR_30_30 => (intro w hSw; (try dsimp only at hSw); go_simp; try with_reducible rfl)
  try simp only [Act.put, List.setIfInBounds_toArray, List.set_cons_zero, List.set_cons_succ]
  refine wpAnyH_take (i := 31) (oi := ?oR_31_31) (v := ?vR_31_31) ?eR_31_31 (by kernel_rfl) (by kernel_rfl) (by kernel_rfl) ?qR_31_31 (Or.inl ⟨?wR_31_31, ?yR_31_31⟩) (by assumption) ?rR_31_31
  case eR_31_31 => simp only [List.getElem?_toArray, List.getElem?_cons_succ, List.getElem?_cons_zero]; rfl
  case wR_31_31 => rfl
  case qR_31_31 => exact fun _ _ _ h => h
  case yR_31_31 => (intro w hSw; (try dsimp only at hSw); go_simp; try with_reducible rfl)
  try simp only [Act.put, List.setIfInBounds_toArray, List.set_cons_zero, List.set_cons_succ]
  have hOld := hHeld
  clear hHeld
  refine wpAnyH_ready (rs := [28]) (by kernel_rfl) (by simp) ?_
  refine AllReadyH.cons (o := ?oR_32_28) ?eR_32_28 (fun K hK => ?_) AllReadyH.nil
  case eR_32_28 => simp only [List.getElem?_toArray, List.getElem?_cons_succ, List.getElem?_cons_zero]; rfl
  go_simp
  (go_at_call 19; refine Calls.mono (HSC.out _ (HW7.out.trans (D5.out.mono HW7.out.size))) ?_; rintro _ x5 ⟨rfl, hb5⟩; have D6 : Hid (Below w7.heap.size w7 x5) := D5.out.trans (hb5.mono D5.out.size); clear hb5)
  try go_wp2_with fail
  refine hK.out _ _ (HKP.out _ D6.out) (fun hHeld => ?_)
  clear hK hOld
  try simp only [Act.put, List.setIfInBounds_toArray, List.set_cons_zero, List.set_cons_succ]
  have hOld := hHeld
  clear hHeld
  refine wpAnyH_ready (rs := [32]) (by kernel_rfl) (by simp) ?_
  refine AllReadyH.cons (o := ?oR_33_32) ?eR_33_32 (fun K hK => ?_) AllReadyH.nil
  case eR_33_32 => simp only [List.getElem?_toArray, List.getElem?_cons_succ, List.getElem?_cons_zero]; rfl
  go_simp
  (go_at_call 26; refine Calls.mono (HRS.out _ (HW7.out.trans (D6.out.mono HW7.out.size))) ?_; rintro _ x6 ⟨rfl, hb6⟩; have D7 : Hid (Below w7.heap.size w7 x6) := D6.out.trans (hb6.mono D6.out.size); clear hb6)
  try go_wp2_with fail
  refine hK.out _ _ (HKP.out _ D7.out) (fun hHeld => ?_)
  clear hK hOld
  try simp only [Act.put, List.setIfInBounds_toArray, List.set_cons_zero, List.set_cons_succ]
  refine wpAnyH_take (i := 33) (oi := ?oR_34_33) (v := ?vR_34_33) ?eR_34_33 (by kernel_rfl) (by kernel_rfl) (by kernel_rfl) ?qR_34_33 (Or.inl ⟨?wR_34_33, ?yR_34_33⟩) (by assumption) ?rR_34_33
  case eR_34_33 => simp only [List.getElem?_toArray, List.getElem?_cons_succ, List.getElem?_cons_zero]; rfl
  case wR_34_33 => rfl
  case qR_34_33 => exact fun _ _ _ h => h
  case yR_34_33 => (intro w hSw; (try dsimp only at hSw); go_simp; try with_reducible rfl)
  try simp only [Act.put, List.setIfInBounds_toArray, List.set_cons_zero, List.set_cons_succ]
  refine wpAnyH_take (i := 34) (oi := ?oR_35_34) (v := ?vR_35_34) ?eR_35_34 (by kernel_rfl) (by kernel_rfl) (by kernel_rfl) ?qR_35_34 (Or.inl ⟨?wR_35_34, ?yR_35_34⟩) (by assumption) ?rR_35_34
  case eR_35_34 => simp only [List.getElem?_toArray, List.getElem?_cons_succ, List.getElem?_cons_zero]; rfl
  case wR_35_34 => rfl
  case qR_35_34 => exact fun _ _ _ h => h
  case yR_35_34 => (intro w hSw; (try dsimp only at hSw); go_simp; try with_reducible rfl)
  try simp only [Act.put, List.setIfInBounds_toArray, List.set_cons_zero, List.set_cons_succ]
  refine wpAnyH_take (i := 35) (oi := ?oR_36_35) (v := ?vR_36_35) ?eR_36_35 (by kernel_rfl) (by kernel_rfl) (by kernel_rfl) ?qR_36_35 (Or.inl ⟨?wR_36_35, ?yR_36_35⟩) (by assumption) ?rR_36_35
  case eR_36_35 => simp only [List.getElem?_toArray, List.getElem?_cons_succ, List.getElem?_cons_zero]; rfl
  case wR_36_35 => rfl
  case qR_36_35 => exact fun _ _ _ h => h
  case yR_36_35 => (intro w hSw; (try dsimp only at hSw); go_simp; try with_reducible rfl)
  try simp only [Act.put, List.setIfInBounds_toArray, List.set_cons_zero, List.set_cons_succ]
  refine wpAnyH_take (i := 36) (oi := ?oR_37_36) (v := ?vR_37_36) ?eR_37_36 (by kernel_rfl) (by kernel_rfl) (by kernel_rfl) ?qR_37_36 (Or.inl ⟨?wR_37_36, ?yR_37_36⟩) (by assumption) ?rR_37_36
  case eR_37_36 => simp only [List.getElem?_toArray, List.getElem?_cons_succ, List.getElem?_cons_zero]; rfl
  case wR_37_36 => rfl
  case qR_37_36 => exact fun _ _ _ h => h
  case yR_37_36 => (intro w hSw; (try dsimp only at hSw); go_simp; try with_reducible rfl)
  try simp only [Act.put, List.setIfInBounds_toArray, List.set_cons_zero, List.set_cons_succ]
  refine wpAnyH_take (i := 37) (oi := ?oR_38_37) (v := ?vR_38_37) ?eR_38_37 (by kernel_rfl) (by kernel_rfl) (by kernel_rfl) ?qR_38_37 (Or.inl ⟨?wR_38_37, ?yR_38_37⟩) (by assumption) ?rR_38_37
  case eR_38_37 => simp only [List.getElem?_toArray, List.getElem?_cons_succ, List.getElem?_cons_zero]; rfl
  case wR_38_37 => rfl
  case qR_38_37 => exact fun _ _ _ h => h
  case yR_38_37 => (intro w hSw; (try dsimp only at hSw); go_simp; try with_reducible rfl)
  try simp only [Act.put, List.setIfInBounds_toArray, List.set_cons_zero, List.set_cons_succ]
  refine wpAnyH_take (i := 39) (oi := ?oR_39_39) (v := ?vR_39_39) ?eR_39_39 (by kernel_rfl) (by kernel_rfl) (by kernel_rfl) ?qR_39_39 (Or.inl ⟨?wR_39_39, ?yR_39_39⟩) (by assumption) ?rR_39_39
  case eR_39_39 => simp only [List.getElem?_toArray, List.getElem?_cons_succ, List.getElem?_cons_zero]; rfl
  case wR_39_39 => rfl
  case qR_39_39 => exact fun _ _ _ h => h
  case yR_39_39 => (intro w hSw; (try dsimp only at hSw); go_simp; try with_reducible rfl)
  try simp only [Act.put, List.setIfInBounds_toArray, List.set_cons_zero, List.set_cons_succ]
  refine wpAnyH_take (i := 40) (oi := ?oR_40_40) (v := ?vR_40_40) ?eR_40_40 (by kernel_rfl) (by kernel_rfl) (by kernel_rfl) ?qR_40_40 (Or.inl ⟨?wR_40_40, ?yR_40_40⟩) (by assumption) ?rR_40_40
  case eR_40_40 => simp only [List.getElem?_toArray, List.getElem?_cons_succ, List.getElem?_cons_zero]; rfl
  case wR_40_40 => rfl
  case qR_40_40 => exact fun _ _ _ h => h
  case yR_40_40 => (intro w hSw; (try dsimp only at hSw); go_simp; try with_reducible rfl)
  try simp only [Act.put, List.setIfInBounds_toArray, List.set_cons_zero, List.set_cons_succ]
  have hOld := hHeld
  clear hHeld
  refine wpAnyH_ready (rs := [38]) (by kernel_rfl) (by simp) ?_
  refine AllReadyH.cons (o := ?oR_41_38) ?eR_41_38 (fun K hK => ?_) AllReadyH.nil
  case eR_41_38 => simp only [List.getElem?_toArray, List.getElem?_cons_succ, List.getElem?_cons_zero]; rfl
  go_simp
  (go_at_call 14; refine Calls.mono (HRE.out _ (HW7.out.trans (D7.out.mono HW7.out.size))) ?_; rintro _ x7 ⟨rfl, hb7⟩; have D8 : Hid (Below w7.heap.size w7 x7) := D7.out.trans (hb7.mono D7.out.size); clear hb7)
  try go_wp2_with fail
  refine hK.out _ _ (HKP.out _ D8.out) (fun hHeld => ?_)
  clear hK hOld
  try simp only [Act.put, List.setIfInBounds_toArray, List.set_cons_zero, List.set_cons_succ]
  have hOld := hHeld
  clear hHeld
  refine wpAnyH_ready (rs := [41]) (by kernel_rfl) (by simp) ?_
  refine AllReadyH.cons (o := ?oR_42_41) ?eR_42_41 (fun K hK => ?_) AllReadyH.nil
  case eR_42_41 => simp only [List.getElem?_toArray, List.getElem?_cons_succ, List.getElem?_cons_zero]; rfl
  go_simp
  (go_at_call 27; refine Calls.mono (HRR.out _ (HW7.out.trans (D8.out.mono HW7.out.size))) ?_; rintro _ x8 ⟨rfl, hb8⟩; have D9 : Hid (Below w7.heap.size w7 x8) := D8.out.trans (hb8.mono D8.out.size); clear hb8)
  try go_wp2_with fail
  refine hK.out _ _ (HKP.out _ D9.out) (fun hHeld => ?_)
  clear hK hOld
  try simp only [Act.put, List.setIfInBounds_toArray, List.set_cons_zero, List.set_cons_succ]
  refine wpAnyH_take (i := 42) (oi := ?oR_43_42) (v := ?vR_43_42) ?eR_43_42 (by kernel_rfl) (by kernel_rfl) (by kernel_rfl) ?qR_43_42 (Or.inl ⟨?wR_43_42, ?yR_43_42⟩) (by assumption) ?rR_43_42
  case eR_43_42 => simp only [List.getElem?_toArray, List.getElem?_cons_succ, List.getElem?_cons_zero]; rfl
  case wR_43_42 => rfl
  case qR_43_42 => exact fun _ _ _ h => h
  case yR_43_42 => (intro w hSw; (try dsimp only at hSw); go_simp; try with_reducible rfl)
  try simp only [Act.put, List.setIfInBounds_toArray, List.set_cons_zero, List.set_cons_succ]
  refine wpAnyH_take (i := 43) (oi := ?oR_44_43) (v := ?vR_44_43) ?eR_44_43 (by kernel_rfl) (by kernel_rfl) (by kernel_rfl) ?qR_44_43 (Or.inl ⟨?wR_44_43, ?yR_44_43⟩) (by assumption) ?rR_44_43
  case eR_44_43 => simp only [List.getElem?_toArray, List.getElem?_cons_succ, List.getElem?_cons_zero]; rfl
  case wR_44_43 => rfl
  case qR_44_43 => exact fun _ _ _ h => h
  case yR_44_43 => (intro w hSw; (try dsimp only at hSw); go_simp; try with_reducible rfl)
  try simp only [Act.put, List.setIfInBounds_toArray, List.set_cons_zero, List.set_cons_succ]
  refine wpAnyH_take (i := 44) (oi := ?oR_45_44) (v := ?vR_45_44) ?eR_45_44 (by kernel_rfl) (by kernel_rfl) (by kernel_rfl) ?qR_45_44 (Or.inl ⟨?wR_45_44, ?yR_45_44⟩) (by assumption) ?rR_45_44
  case eR_45_44 => simp only [List.getElem?_toArray, List.getElem?_cons_succ, List.getElem?_cons_zero]; rfl
  case wR_45_44 => rfl
  case qR_45_44 => exact fun _ _ _ h => h
  case yR_45_44 => (intro w hSw; (try dsimp only at hSw); go_simp; try with_reducible rfl)
  try simp only [Act.put, List.setIfInBounds_toArray, List.set_cons_zero, List.set_cons_succ]
  refine wpAnyH_done (by kernel_rfl) ?_ _
  go_wp2_with fail
  go_ret
  exact ⟨rfl, HW7.out.trans (D9.out.mono HW7.out.size)⟩
end Go.Proofs.Ytkcohhldmhdcfaa
