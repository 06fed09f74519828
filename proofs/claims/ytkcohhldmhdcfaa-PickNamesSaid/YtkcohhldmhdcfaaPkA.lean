/- Chapter 14: CheckSetup, Bound. -/
import Derived.Test.YtkcohhldmhdcfaaVeO
namespace Go.Proofs.Ytkcohhldmhdcfaa
open Go.RowKit

/-- A setup. -/
structure Stp where
  trig : Int
  base : Int
  fac : Int
def stpCells (s : Stp) : List Value := [.int .i64 s.trig, .int .i64 s.base, .int .i64 s.fac]
structure Stp.Fine (s : Stp) : Prop where
  t0 : 1 ≤ s.trig
  t1 : s.trig ≤ 100
  b0 : 1 ≤ s.base
  b1 : s.base ≤ 1073741824
  f0 : 2 ≤ s.fac
  f1 : s.fac ≤ 100
open Classical in
noncomputable def stpW (s : Stp) : Int := if s.Fine then 0 else 2
theorem stpW_yes {s : Stp} (h : s.Fine) : stpW s = 0 := if_pos h
theorem stpW_no {s : Stp} (h : ¬ s.Fine) : stpW s = 2 := if_neg h
theorem stpW_fine {s : Stp} (h : stpW s = 0) : s.Fine := by
  by_cases hf : s.Fine
  · exact hf
  · rw [stpW_no hf] at h; cases h

set_option maxRecDepth 100000 in
set_option maxHeartbeats 2000000 in
theorem setup_any (s : Stp) (w : World) :
    Calls Try.prog 12 #[.agg (stpCells s).toArray] w fun e w' => e = .returned (.int .i64 (stpW s)) ∧ Below w.heap.size w w' := by
  unfold stpCells
  by_cases h0 : 1 ≤ s.trig
  case neg =>
    have g1 : s.trig < 1 := by omega
    have HF : Hid (stpW s = 2) := stpW_no fun e => h0 e.t0
    clear h0
    go_enter Try.func12, Try.ntmps12
    go_wp2_with fail
    go_ret
    exact ⟨ret_int HF.out.symm, (Below.refl _ _).alloc (Nat.le_refl _) _⟩
  by_cases h1 : s.trig ≤ 100
  case neg =>
    have g1 : 100 < s.trig := by omega
    have HF : Hid (stpW s = 2) := stpW_no fun e => h1 e.t1
    clear h1
    go_enter Try.func12, Try.ntmps12
    go_wp2_with fail
    go_ret
    exact ⟨ret_int HF.out.symm, (Below.refl _ _).alloc (Nat.le_refl _) _⟩
  by_cases h2 : 1 ≤ s.base
  case neg =>
    have g1 : s.base < 1 := by omega
    have HF : Hid (stpW s = 2) := stpW_no fun e => h2 e.b0
    clear h2
    go_enter Try.func12, Try.ntmps12
    go_wp2_with fail
    go_ret
    exact ⟨ret_int HF.out.symm, (Below.refl _ _).alloc (Nat.le_refl _) _⟩
  by_cases h3 : s.base ≤ 1073741824
  case neg =>
    have g1 : 1073741824 < s.base := by omega
    have HF : Hid (stpW s = 2) := stpW_no fun e => h3 e.b1
    clear h3
    go_enter Try.func12, Try.ntmps12
    go_wp2_with fail
    go_ret
    exact ⟨ret_int HF.out.symm, (Below.refl _ _).alloc (Nat.le_refl _) _⟩
  by_cases h4 : 2 ≤ s.fac
  case neg =>
    have g1 : s.fac < 2 := by omega
    have HF : Hid (stpW s = 2) := stpW_no fun e => h4 e.f0
    clear h4
    go_enter Try.func12, Try.ntmps12
    go_wp2_with fail
    go_ret
    exact ⟨ret_int HF.out.symm, (Below.refl _ _).alloc (Nat.le_refl _) _⟩
  by_cases h5 : s.fac ≤ 100
  case neg =>
    have g1 : 100 < s.fac := by omega
    have HF : Hid (stpW s = 2) := stpW_no fun e => h5 e.f1
    clear h5
    go_enter Try.func12, Try.ntmps12
    go_wp2_with fail
    go_ret
    exact ⟨ret_int HF.out.symm, (Below.refl _ _).alloc (Nat.le_refl _) _⟩
  have HF : Hid (stpW s = 0) := stpW_yes ⟨h0, h1, h2, h3, h4, h5⟩
  go_enter Try.func12, Try.ntmps12
  go_wp2_with fail
  go_ret
  exact ⟨ret_int HF.out.symm, (Below.refl _ _).alloc (Nat.le_refl _) _⟩

/-- A level's bound. -/
noncomputable def boundW (s : Stp) (lev : Int) : Int :=
  if stpW s ≠ 0 then 0 else if lev = 0 then s.trig else if lev = 1 then s.base else if lev = 2 then s.base * s.fac else if lev = 3 then s.base * s.fac * s.fac else 0
theorem boundW_pos {s : Stp} {lev : Int} (h : stpW s = 0) (h0 : 0 ≤ lev) (h1 : lev < 4) : 1 ≤ boundW s lev ∧ boundW s lev ≤ 10737418240000 := by
  have hf := stpW_fine h
  have e1 : 1 ≤ s.base * s.fac := by have := Int.mul_le_mul hf.b0 (show 1 ≤ s.fac from by have := hf.f0; omega) (by omega) (by have := hf.b0; omega); simpa using this
  have e2 : s.base * s.fac ≤ 107374182400 := by have := Int.mul_le_mul hf.b1 hf.f1 (by have := hf.f0; omega) (by omega); simpa using this
  have e3 : 1 ≤ s.base * s.fac * s.fac := by have := Int.mul_le_mul e1 (show 1 ≤ s.fac from by have := hf.f0; omega) (by omega) (by omega); simpa using this
  have e4 : s.base * s.fac * s.fac ≤ 10737418240000 := by have := Int.mul_le_mul e2 hf.f1 (by have := hf.f0; omega) (by omega); simpa using this
  have := hf.t0
  have := hf.t1
  have := hf.b0
  have := hf.b1
  unfold boundW
  rw [if_neg (by simp [h])]
  split
  · omega
  · split
    · omega
    · split
      · omega
      · split
        · omega
        · omega
set_option maxRecDepth 100000 in
set_option maxHeartbeats 2000000 in
theorem bound_any (s : Stp) (lev : Int) (w : World) :
    Calls Try.prog 21 #[.agg (stpCells s).toArray, .int .i64 lev] w fun e w' => e = .returned (.int .i64 (boundW s lev)) ∧ Below w.heap.size w w' := by
  have HCK := Lib.hid (fun w' => setup_any s w')
  unfold stpCells at *
  go_enter Try.func21, Try.ntmps21
  go_upto_region 1 with fail
  refine wp_gen fun w1 hw1 => ?_
  have HX1 : Hid (Blk w1 w.heap.size #[.int .i64 s.trig, .int .i64 s.base, .int .i64 s.fac] 27) := by rw [hw1]; exact Blk.at_new rfl rfl
  have HW1 : Hid (Below w.heap.size w w1) := by rw [hw1]; exact (Below.refl _ _).alloc (Nat.le_refl _) _
  clear hw1
  have x0 : w1.cell? ⟨w.heap.size, 0, none⟩ = some (.int .i64 s.trig) := HX1.out.cell rfl
  have x1 : w1.cell? ⟨w.heap.size, 1, none⟩ = some (.int .i64 s.base) := HX1.out.cell rfl
  have x2 : w1.cell? ⟨w.heap.size, 2, none⟩ = some (.int .i64 s.fac) := HX1.out.cell rfl
  go_wp2_with fail
  clear x0 x1 x2
  refine Calls.mono (HCK.out _) ?_
  rintro _ w2 ⟨rfl, hb⟩
  have HX2 : Hid (Blk w2 w.heap.size #[.int .i64 s.trig, .int .i64 s.base, .int .i64 s.fac] 27) := HX1.out.below hb HX1.out.lt
  have HW2 : Hid (Below w.heap.size w w2) := HW1.out.trans (hb.mono HW1.out.size)
  clear hb HX1 HW1
  obtain ⟨ck, hck⟩ : ∃ c, stpW s = c := ⟨_, rfl⟩
  have HK := Lib.hid hck
  rw [hck]
  clear hck
  by_cases hc0 : ck = 0
  case neg =>
    have g0 : (ck == 0) = false := by simpa using hc0
    have g1 : (ck != 0) = true := by simpa using hc0
    have HF : Hid (boundW s lev = 0) := by show _ = _; unfold boundW; rw [if_pos fun e => hc0 (by rw [← HK.out]; exact e)]
    clear hc0
    go_wp2_with fail
    go_ret
    exact ⟨ret_int HF.out.symm, HW2.out⟩
  subst hc0
  by_cases hl0 : 0 ≤ lev
  case neg =>
    have g0 : lev < 0 := by omega
    have HF : Hid (boundW s lev = 0) := by show _ = _; unfold boundW; rw [if_neg (by simp [HK.out]), if_neg (by omega), if_neg (by omega), if_neg (by omega), if_neg (by omega)]
    clear hl0
    go_wp2_with fail
    go_ret
    exact ⟨ret_int HF.out.symm, HW2.out⟩
  by_cases hl1 : lev < 4
  case neg =>
    have g0 : 4 ≤ lev := by omega
    have HF : Hid (boundW s lev = 0) := by show _ = _; unfold boundW; rw [if_neg (by simp [HK.out]), if_neg (by omega), if_neg (by omega), if_neg (by omega), if_neg (by omega)]
    clear hl1
    go_wp2_with fail
    go_ret
    exact ⟨ret_int HF.out.symm, HW2.out⟩
  have x0 : w2.cell? ⟨w.heap.size, 0, none⟩ = some (.int .i64 s.trig) := HX2.out.cell rfl
  have x1 : w2.cell? ⟨w.heap.size, 1, none⟩ = some (.int .i64 s.base) := HX2.out.cell rfl
  have x2 : w2.cell? ⟨w.heap.size, 2, none⟩ = some (.int .i64 s.fac) := HX2.out.cell rfl
  have HFI := Lib.hid (stpW_fine HK.out)
  have e1 : 1 ≤ s.base * s.fac := by have := Int.mul_le_mul HFI.out.b0 (show 1 ≤ s.fac from by have := HFI.out.f0; omega) (by omega) (by have := HFI.out.b0; omega); simpa using this
  have e2 : s.base * s.fac ≤ 107374182400 := by have := Int.mul_le_mul HFI.out.b1 HFI.out.f1 (by have := HFI.out.f0; omega) (by omega); simpa using this
  have e3 : 1 ≤ s.base * s.fac * s.fac := by have := Int.mul_le_mul e1 (show 1 ≤ s.fac from by have := HFI.out.f0; omega) (by omega) (by omega); simpa using this
  have e4 : s.base * s.fac * s.fac ≤ 10737418240000 := by have := Int.mul_le_mul e2 HFI.out.f1 (by have := HFI.out.f0; omega) (by omega); simpa using this
  have hcase : lev = 0 ∨ lev = 1 ∨ lev = 2 ∨ lev = 3 := by omega
  have HB0 : Hid (boundW s 0 = s.trig) := by show _ = _; unfold boundW; rw [if_neg (by simp [HK.out]), if_pos rfl]
  have HB1 : Hid (boundW s 1 = s.base) := by show _ = _; unfold boundW; rw [if_neg (by simp [HK.out]), if_neg (by omega), if_pos rfl]
  have HB2 : Hid (boundW s 2 = s.base * s.fac) := by show _ = _; unfold boundW; rw [if_neg (by simp [HK.out]), if_neg (by omega), if_neg (by omega), if_pos rfl]
  have HB3 : Hid (boundW s 3 = s.base * s.fac * s.fac) := by show _ = _; unfold boundW; rw [if_neg (by simp [HK.out]), if_neg (by omega), if_neg (by omega), if_neg (by omega), if_pos rfl]
  clear hl0 hl1 HFI
  rcases hcase with rfl | rfl | rfl | rfl
  · clear e1 e2 e3 e4
    go_wp2_with fail
    go_ret
    exact ⟨ret_int HB0.out.symm, HW2.out⟩
  · clear e1 e2 e3 e4
    go_wp2_with fail
    refine wp_loop_rounds 1 ?_
    rw [rounds_succ]
    go_wp2_with fail
    go_ret
    exact ⟨ret_int HB1.out.symm, HW2.out⟩
  · obtain ⟨p, hp⟩ : ∃ p, s.base * s.fac = p := ⟨_, rfl⟩
    rw [hp] at e1 e2 HB2
    have y1 : RowKit.wrap64 (s.base * s.fac) = p := by rw [hp]; unfold RowKit.wrap64; omega
    have y2 : p < 1152921504606846976 := by omega
    have y3 : min 1152921504606846976 p = p := by omega
    clear e3 e4 e1 e2 hp HB3
    go_wp2_with fail
    refine wp_loop_rounds 2 ?_
    rw [rounds_succ]
    go_wp2_with fail
    rw [rounds_succ]
    go_wp2_with fail
    go_ret
    exact ⟨ret_int HB2.out.symm, HW2.out⟩
  · obtain ⟨p, hp⟩ : ∃ p, s.base * s.fac = p := ⟨_, rfl⟩
    rw [hp] at e1 e2 e3 e4 HB3
    obtain ⟨q, hq⟩ : ∃ q, p * s.fac = q := ⟨_, rfl⟩
    rw [hq] at e3 e4 HB3
    have y1 : RowKit.wrap64 (s.base * s.fac) = p := by rw [hp]; unfold RowKit.wrap64; omega
    have y2 : p < 1152921504606846976 := by omega
    have y3 : min 1152921504606846976 p = p := by omega
    have z1 : RowKit.wrap64 (p * s.fac) = q := by rw [hq]; unfold RowKit.wrap64; omega
    have z2 : q < 1152921504606846976 := by omega
    have z3 : min 1152921504606846976 q = q := by omega
    clear e3 e4 e1 e2 hp hq HB2
    go_wp2_with fail
    refine wp_loop_rounds 3 ?_
    rw [rounds_succ]
    go_wp2_with fail
    rw [rounds_succ]
    go_wp2_with fail
    rw [rounds_succ]
    go_wp2_with fail
    go_ret
    exact ⟨ret_int HB3.out.symm, HW2.out⟩
end Go.Proofs.Ytkcohhldmhdcfaa
