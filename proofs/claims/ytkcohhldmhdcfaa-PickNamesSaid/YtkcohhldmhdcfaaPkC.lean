/- Chapter 14: worst. -/
import Derived.Test.YtkcohhldmhdcfaaPkB
import Derived.Test.YtkcohhldmhdcfaaVeX
namespace Go.Proofs.Ytkcohhldmhdcfaa
open Go.RowKit

/-- The level with the greatest score, of the first k. -/
noncomputable def worstTo (v : Ver) (s : Stp) : Nat → Nat × Int
  | 0 => (0, 0)
  | k + 1 => if (worstTo v s k).2 < scoreW v s k then (k, scoreW v s k) else worstTo v s k
theorem worstTo_pos (v : Ver) (s : Stp) : ∀ k, 0 ≤ (worstTo v s k).2
  | 0 => Int.le_refl _
  | k + 1 => by
    have := worstTo_pos v s k
    rw [worstTo]
    split
    · show 0 ≤ scoreW v s k; omega
    · exact this
theorem worstTo_lt (v : Ver) (s : Stp) : ∀ k, k ≤ 5 → (worstTo v s k).1 < 5
  | 0, _ => by show 0 < 5; decide
  | k + 1, h => by
    have := worstTo_lt v s k (by omega)
    rw [worstTo]
    split
    · show k < 5; omega
    · exact this
set_option maxRecDepth 100000 in
set_option maxHeartbeats 4000000 in
theorem worst_any (F : Nat → Prop) (v : Ver) (s : Stp) (lv : Value) (w : World) (h : Rw (rowK filK) F w lv v.levels) (hw : v.wf) (hck : chkW v = 0) (hst : stpW s = 0) :
    Calls Try.prog 54 #[.agg (verCells v lv).toArray, .agg (stpCells s).toArray] w fun e w' => e = .returned (.tuple #[.int .i64 ((worstTo v s 5).1 : Int), .int .i64 (worstTo v s 5).2]) ∧ Below w.heap.size w w' := by
  have HSC := Lib.hid (fun i (hi : i < 5) w' (hb : Below w.heap.size w w') => score_any F v s lv i w' (h.below hb) hw hck hst hi)
  obtain ⟨xa, ca, rfl⟩ := h.isSlice
  clear h hw hck hst
  generalize v.levels.length = m at *
  unfold verCells at HSC ⊢
  unfold stpCells at HSC ⊢
  go_enter Try.func54, Try.ntmps54
  go_upto_region 1 with fail
  refine wp_gen fun w1 hw1 => ?_
  have HX1 : Hid (Boxed w1 w.heap.size (w.heap.size + 1) v (.slice xa m ca) s) := by rw [hw1]; exact boxed_two _ _ _ _
  have HW1 : Hid (Below w.heap.size w w1) := by rw [hw1]; exact below_two _ _ _
  clear hw1
  obtain ⟨b1, hb1⟩ : ∃ b, w.heap.size = b := ⟨_, rfl⟩
  obtain ⟨b2, hb2⟩ : ∃ b, w.heap.size + 1 = b := ⟨_, rfl⟩
  have HXS : Hid (w.heap.size ≤ b1 ∧ w.heap.size ≤ b2) := ⟨by omega, by omega⟩
  rw [hb2, hb1] at HX1 ⊢
  clear hb1 hb2
  go_upto_region 2 with fail
  refine wp_gen fun w2 hw2 => ?_
  have HA2 : Hid (Blk w2 w1.heap.size #[.int .i64 0, .int .i64 0, .int .i64 0, .int .i64 0, .int .i64 0] 136) := by rw [hw2]; exact Blk.at_new rfl rfl
  have HB2 : Hid (Below w1.heap.size w1 w2) := by rw [hw2]; exact (Below.refl _ _).alloc (Nat.le_refl _) _
  clear hw2
  have HX2 := Lib.hid (HX1.out.below HB2.out)
  have HNE : Hid (b1 ≠ w1.heap.size ∧ b2 ≠ w1.heap.size) := ⟨fun e => by have := HX1.out.ver.lt; omega, fun e => by have := HX1.out.stp.lt; omega⟩
  have HW2 : Hid (Below w.heap.size w w2) := HW1.out.trans (HB2.out.mono HW1.out.size)
  have HAS : Hid (w.heap.size ≤ w1.heap.size) := HW1.out.size
  clear HX1 HW1 HB2
  generalize w1.heap.size = ab at *
  go_wp2_with fail
  go_loopw [4, 5, 8] (fun lev mv kv wr => ∃ (k : Nat) (cs : Array Value), kv = .int .i64 (k : Int) ∧ k ≤ 5 ∧ lev = .int .i64 ((worstTo v s k).1 : Int) ∧ mv = .int .i64 (worstTo v s k).2 ∧ Hid (Blk wr ab cs 136) ∧ Hid (cs.size = 5 ∧ ∀ j, j < 5 → ∃ n, cs[j]? = some (.int .i64 n)) ∧ Hid (Boxed wr b1 b2 v (.slice xa m ca) s) ∧ Hid (Below w.heap.size w wr)) (fun _ _ kv _ => 5 - (intOf kv).toNat)
  case atStart =>
    refine ⟨0, _, rfl, by omega, rfl, rfl, HA2.out, ⟨rfl, fun j hj => ?_⟩, HX2.out, HW2.out⟩
    exact ⟨0, by rcases (show j = 0 ∨ j = 1 ∨ j = 2 ∨ j = 3 ∨ j = 4 by omega) with rfl | rfl | rfl | rfl | rfl <;> rfl⟩
  case round =>
    obtain ⟨k, cs, rfl, hk, rfl, rfl, HA, HCS, HX, HW⟩ := hrel
    clear HA2 HX2 HW2
    by_cases hlt : k < 5
    · have t1 : (k : Int) < 5 := by omega
      have t2 : 0 ≤ (k : Int) := by omega
      have HWT : Hid (worstTo v s (k + 1) = if (worstTo v s k).2 < scoreW v s k then (k, scoreW v s k) else worstTo v s k) := rfl
      have HWP : Hid (0 ≤ (worstTo v s k).2) := worstTo_pos v s k
      have HSK := Lib.hid (HSC.out k hlt)
      obtain ⟨sc, hsc⟩ : ∃ x, scoreW v s k = x := ⟨_, rfl⟩
      obtain ⟨wl, hwl⟩ : ∃ x, (worstTo v s k).1 = x := ⟨_, rfl⟩
      obtain ⟨wm, hwm⟩ : ∃ x, (worstTo v s k).2 = x := ⟨_, rfl⟩
      have HPR : Hid (worstTo v s k = (wl, wm)) := by show _ = _; rw [← hwl, ← hwm]
      rw [hsc] at HSK HWT
      rw [hwm] at HWT HWP ⊢
      rw [hwl]
      clear hsc hwl hwm
      obtain ⟨x0, x1, x2, x3, x4, x5, x6⟩ := HX.out.cells
      go_upto_region 5 with fail
      go_wp2_with fail
      clear x0 x1 x2 x3 x4 x5 x6
      refine Calls.mono (HSK.out _ HW.out) ?_
      rintro _ w3 ⟨rfl, hb⟩
      have HA3 := Lib.hid (HA.out.below hb HA.out.lt)
      have HX3 := Lib.hid (HX.out.below hb)
      have HW3 : Hid (Below w.heap.size w w3) := HW.out.trans (hb.mono HW.out.size)
      clear hb HA HX HW
      obtain ⟨n0, hn0⟩ := HCS.out.2 k hlt
      have a0 : w3.cell? ⟨ab, k, none⟩ = some (.int .i64 n0) := HA3.out.cell hn0
      have a1 : w3.frozen? ⟨ab, k, none⟩ = false := HA3.out.free _
      go_upto_region 6 with fail
      clear a0 a1
      refine wp_gen fun w4 hw4 => ?_
      have HA4 : Hid (Blk w4 ab (cs.setIfInBounds k (.int .i64 sc)) 136) := by rw [hw4]; exact HA3.out.set k _
      have HX4 : Hid (Boxed w4 b1 b2 v (.slice xa m ca) s) := by rw [hw4]; exact ⟨HX3.out.ver.set_other _ _ HNE.out.1.symm, HX3.out.stp.set_other _ _ HNE.out.2.symm⟩
      have HW4 : Hid (Below w.heap.size w w4) := by rw [hw4]; exact HW3.out.setCell HAS.out _
      clear hw4 HA3 HX3 HW3
      have HC4 : Hid ((cs.setIfInBounds k (.int .i64 sc)).size = 5 ∧ ∀ j, j < 5 → ∃ n, (cs.setIfInBounds k (.int .i64 sc))[j]? = some (.int .i64 n)) := by
        refine ⟨by rw [Array.size_setIfInBounds]; exact HCS.out.1, fun j hj => ?_⟩
        by_cases hjk : k = j
        · subst hjk; exact ⟨sc, by rw [Array.getElem?_setIfInBounds_self_of_lt (by rw [HCS.out.1]; exact hlt)]⟩
        · rw [Array.getElem?_setIfInBounds_ne hjk]; exact HCS.out.2 j hj
      have a0 : w4.cell? ⟨ab, k, none⟩ = some (.int .i64 sc) := HA4.out.cell (by rw [Array.getElem?_setIfInBounds_self_of_lt (by rw [HCS.out.1]; exact hlt)])
      have t3 : max wm 0 = wm := by have := HWP.out; omega
      have t4 : (if 0 > wm then 0 else wm) = wm := if_neg (by have := HWP.out; omega)
      obtain ⟨cs2, hcs2⟩ : ∃ c, cs.setIfInBounds k (.int .i64 sc) = c := ⟨_, rfl⟩
      rw [hcs2] at HA4 HC4
      clear hcs2 HCS hn0
      by_cases hgt : wm < sc
      · have HR : Hid (worstTo v s (k + 1) = (k, sc)) := by show _ = _; rw [HWT.out, if_pos hgt]
        go_wp2_with fail
        go_region_law (fail)
        go_wp2_with fail
        go_roundw
        · exact ⟨k + 1, cs2, by go_num, by omega, by rw [HR.out], by rw [HR.out], HA4.out, HC4.out, ⟨HX4.out.ver, HX4.out.stp⟩, below_drew HW4.out⟩
        · simp only [intOf]; omega
      · have HR : Hid (worstTo v s (k + 1) = (wl, wm)) := by show _ = _; rw [HWT.out, if_neg hgt, HPR.out]
        go_wp2_with fail
        go_roundw
        · exact ⟨k + 1, cs2, by go_num, by omega, by rw [HR.out], by rw [HR.out], HA4.out, HC4.out, HX4.out, HW4.out⟩
        · simp only [intOf]; omega
    · have t1 : ¬ (k : Int) < 5 := by omega
      obtain rfl : k = 5 := by omega
      go_wp2_with fail
      go_ret2
      exact ⟨rfl, HW.out⟩

/-- Is a version at rest? -/
noncomputable def restB (v : Ver) (s : Stp) : Bool := decide (mayW v s = 0) && decide ((worstTo v s 5).2 < 100)
set_option maxRecDepth 100000 in
set_option maxHeartbeats 4000000 in
theorem rest_any (F : Nat → Prop) (v : Ver) (s : Stp) (lv : Value) (w : World) (h : Rw (rowK filK) F w lv v.levels) (hw : v.wf) (hfew : cntTo v.levels v.levels.length ≤ 1000000) :
    Calls Try.prog 14 #[.agg (verCells v lv).toArray, .agg (stpCells s).toArray] w fun e w' => e = .returned (.bool (restB v s)) ∧ Below w.heap.size w w' := by
  have HMA := Lib.hid (fun w' (hb : Below w.heap.size w w') => may_any F v s lv w' (h.below hb) hw hfew)
  have HWO := Lib.hid (fun (h0 : mayW v s = 0) w' (hb : Below w.heap.size w w') => worst_any F v s lv w' (h.below hb) hw (mayW_ok h0).1 (mayW_ok h0).2)
  have HRB : Hid (restB v s = (decide (mayW v s = 0) && decide ((worstTo v s 5).2 < 100))) := rfl
  obtain ⟨xa, ca, rfl⟩ := h.isSlice
  clear h hw hfew
  generalize v.levels.length = m at *
  unfold verCells at HMA HWO ⊢
  unfold stpCells at HMA HWO ⊢
  go_enter Try.func14, Try.ntmps14
  go_upto_region 1 with fail
  refine wp_gen fun w1 hw1 => ?_
  have HX1 : Hid (Boxed w1 w.heap.size (w.heap.size + 1) v (.slice xa m ca) s) := by rw [hw1]; exact boxed_two _ _ _ _
  have HW1 : Hid (Below w.heap.size w w1) := by rw [hw1]; exact below_two _ _ _
  clear hw1
  obtain ⟨b1, hb1⟩ : ∃ b, w.heap.size = b := ⟨_, rfl⟩
  obtain ⟨b2, hb2⟩ : ∃ b, w.heap.size + 1 = b := ⟨_, rfl⟩
  rw [hb2, hb1] at HX1 ⊢
  clear hb1 hb2
  obtain ⟨x0, x1, x2, x3, x4, x5, x6⟩ := HX1.out.cells
  go_wp2_with fail
  clear x0 x1 x2 x3 x4 x5 x6
  refine Calls.mono (HMA.out _ HW1.out) ?_
  rintro _ w2 ⟨rfl, hb⟩
  have HX2 := Lib.hid (HX1.out.below hb)
  have HW2 : Hid (Below w.heap.size w w2) := HW1.out.trans (hb.mono HW1.out.size)
  clear hb HX1 HW1 HMA
  obtain ⟨ck, hck⟩ : ∃ c, mayW v s = c := ⟨_, rfl⟩
  rw [hck] at HWO HRB ⊢
  clear hck
  by_cases hc0 : ck = 0
  case neg =>
    have g0 : (ck == 0) = false := by simpa using hc0
    have g1 : (ck != 0) = true := by simpa using hc0
    have HF : Hid (restB v s = false) := by show _ = _; rw [HRB.out]; simp [hc0]
    clear hc0
    go_wp2_with fail
    go_ret
    exact ⟨ret_bool HF.out.symm, HW2.out⟩
  subst hc0
  obtain ⟨x0, x1, x2, x3, x4, x5, x6⟩ := HX2.out.cells
  go_wp2_with fail
  clear x0 x1 x2 x3 x4 x5 x6
  refine Calls.mono (HWO.out trivial _ HW2.out) ?_
  rintro _ w3 ⟨rfl, hb⟩
  have HW3 : Hid (Below w.heap.size w w3) := HW2.out.trans (hb.mono HW2.out.size)
  have HF : Hid (restB v s = decide ((worstTo v s 5).2 < 100)) := by show _ = _; rw [HRB.out]; simp
  clear hb HX2 HW2 HWO
  go_wp2_with fail
  go_ret
  exact ⟨ret_bool HF.out.symm, HW3.out⟩

/-- A level's score, of any version and setup. -/
noncomputable def scoreB (v : Ver) (s : Stp) (lev : Int) : Int := if mayW v s = 0 ∧ 0 ≤ lev ∧ lev < 5 then scoreW v s lev.toNat else 0
set_option maxRecDepth 100000 in
set_option maxHeartbeats 4000000 in
theorem pscore_any (F : Nat → Prop) (v : Ver) (s : Stp) (lv : Value) (lev : Int) (w : World) (h : Rw (rowK filK) F w lv v.levels) (hw : v.wf) (hfew : cntTo v.levels v.levels.length ≤ 1000000) :
    Calls Try.prog 19 #[.agg (verCells v lv).toArray, .agg (stpCells s).toArray, .int .i64 lev] w fun e w' => e = .returned (.int .i64 (scoreB v s lev)) ∧ Below w.heap.size w w' := by
  have HMA := Lib.hid (fun w' (hb : Below w.heap.size w w') => may_any F v s lv w' (h.below hb) hw hfew)
  have HSC := Lib.hid (fun (h0 : mayW v s = 0) i (hi : i < 5) w' (hb : Below w.heap.size w w') => score_any F v s lv i w' (h.below hb) hw (mayW_ok h0).1 (mayW_ok h0).2 hi)
  have HRB : Hid (scoreB v s lev = if mayW v s = 0 ∧ 0 ≤ lev ∧ lev < 5 then scoreW v s lev.toNat else 0) := rfl
  have HM5 : Hid (mayW v s = 0 → v.levels.length = 5) := fun h0 => (good_small (mayW_ok h0).1).1
  obtain ⟨xa, ca, rfl⟩ := h.isSlice
  clear h hw hfew
  generalize v.levels.length = m at *
  unfold verCells at HMA HSC ⊢
  unfold stpCells at HMA HSC ⊢
  go_enter Try.func19, Try.ntmps19
  go_upto_region 1 with fail
  refine wp_gen fun w1 hw1 => ?_
  have HX1 : Hid (Boxed w1 w.heap.size (w.heap.size + 1) v (.slice xa m ca) s) := by rw [hw1]; exact boxed_two _ _ _ _
  have HW1 : Hid (Below w.heap.size w w1) := by rw [hw1]; exact below_two _ _ _
  clear hw1
  obtain ⟨b1, hb1⟩ : ∃ b, w.heap.size = b := ⟨_, rfl⟩
  obtain ⟨b2, hb2⟩ : ∃ b, w.heap.size + 1 = b := ⟨_, rfl⟩
  rw [hb2, hb1] at HX1 ⊢
  clear hb1 hb2
  obtain ⟨x0, x1, x2, x3, x4, x5, x6⟩ := HX1.out.cells
  go_wp2_with fail
  clear x0 x1 x2 x3 x4 x5 x6
  refine Calls.mono (HMA.out _ HW1.out) ?_
  rintro _ w2 ⟨rfl, hb⟩
  have HX2 := Lib.hid (HX1.out.below hb)
  have HW2 : Hid (Below w.heap.size w w2) := HW1.out.trans (hb.mono HW1.out.size)
  clear hb HX1 HW1 HMA
  obtain ⟨ck, hck⟩ : ∃ c, mayW v s = c := ⟨_, rfl⟩
  rw [hck] at HSC HRB HM5 ⊢
  clear hck
  by_cases hc0 : ck = 0
  case neg =>
    have g0 : (ck == 0) = false := by simpa using hc0
    have g1 : (ck != 0) = true := by simpa using hc0
    have HF : Hid (scoreB v s lev = 0) := by show _ = _; rw [HRB.out, if_neg fun e => hc0 e.1]
    clear hc0
    go_wp2_with fail
    go_ret
    exact ⟨ret_int HF.out.symm, HW2.out⟩
  subst hc0
  obtain rfl : m = 5 := HM5.out rfl
  by_cases hl0 : 0 ≤ lev
  case neg =>
    have g0 : lev < 0 := by omega
    have HF : Hid (scoreB v s lev = 0) := by show _ = _; rw [HRB.out, if_neg fun e => hl0 e.2.1]
    clear hl0
    go_wp2_with fail
    go_ret
    exact ⟨ret_int HF.out.symm, HW2.out⟩
  obtain ⟨x0, x1, x2, x3, x4, x5, x6⟩ := HX2.out.cells
  by_cases hl1 : lev < 5
  case neg =>
    have g0 : 5 ≤ lev := by omega
    have HF : Hid (scoreB v s lev = 0) := by show _ = _; rw [HRB.out, if_neg fun e => hl1 e.2.2]
    clear hl1
    go_wp2_with fail
    go_ret
    exact ⟨ret_int HF.out.symm, HW2.out⟩
  obtain ⟨i, rfl⟩ : ∃ i : Nat, lev = (i : Int) := ⟨lev.toNat, by omega⟩
  have HF : Hid (scoreB v s (i : Int) = scoreW v s i) := by show _ = _; rw [HRB.out, if_pos ⟨rfl, hl0, hl1⟩, Int.toNat_natCast]
  have HSI := Lib.hid (HSC.out rfl i (by omega))
  clear HSC hl0
  go_wp2_with fail
  clear x0 x1 x2 x3 x4 x5 x6
  refine Calls.mono (HSI.out _ HW2.out) ?_
  rintro _ w3 ⟨rfl, hb⟩
  have HW3 : Hid (Below w.heap.size w w3) := HW2.out.trans (hb.mono HW2.out.size)
  clear hb HX2 HW2 HSI
  go_wp2_with fail
  go_ret
  exact ⟨ret_int HF.out.symm, HW3.out⟩
end Go.Proofs.Ytkcohhldmhdcfaa
