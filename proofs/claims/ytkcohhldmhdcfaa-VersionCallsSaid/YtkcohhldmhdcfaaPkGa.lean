/- Chapter 14: CheckSetup, Bound. Chapter 14: may, score. Chapter 14: worst. Chapter 14: bounds. Chapter 14: gathered. -/
import Derived.Test.YtkcohhldmhdcfaaVeOa
import Derived.Test.YtkcohhldmhdcfaaDrawK
import Derived.Test.YtkcohhldmhdcfaaVeX
namespace Go.Proofs.Ytkcohhldmhdcfaa
open Go.RowKit

/-- A setup. -/
structure Stp where
  trig : Int
  base : Int
  fac : Int
def stpCells (s : Stp) : List Value := [.int .i64 s.trig, .int .i64 s.base, .int .i64 s.fac]
structure Stp.Fine (s : Stp) : Prop where
  t0 : 1 ≤ s.trig
  t1 : s.trig ≤ 100
  b0 : 1 ≤ s.base
  b1 : s.base ≤ 1073741824
  f0 : 2 ≤ s.fac
  f1 : s.fac ≤ 100
open Classical in
noncomputable def stpW (s : Stp) : Int := if s.Fine then 0 else 2
theorem stpW_yes {s : Stp} (h : s.Fine) : stpW s = 0 := if_pos h
theorem stpW_no {s : Stp} (h : ¬ s.Fine) : stpW s = 2 := if_neg h
theorem stpW_fine {s : Stp} (h : stpW s = 0) : s.Fine := by
  by_cases hf : s.Fine
  · exact hf
  · rw [stpW_no hf] at h; cases h

set_option maxRecDepth 100000 in
set_option maxHeartbeats 2000000 in
theorem setup_any (s : Stp) (w : World) :
    Calls Try.prog 12 #[.agg (stpCells s).toArray] w fun e w' => e = .returned (.int .i64 (stpW s)) ∧ Below w.heap.size w w' := by
  unfold stpCells
  by_cases h0 : 1 ≤ s.trig
  case neg =>
    have g1 : s.trig < 1 := by omega
    have HF : Hid (stpW s = 2) := stpW_no fun e => h0 e.t0
    clear h0
    go_enter Try.func12, Try.ntmps12
    go_wp2_with fail
    go_ret
    exact ⟨ret_int HF.out.symm, (Below.refl _ _).alloc (Nat.le_refl _) _⟩
  by_cases h1 : s.trig ≤ 100
  case neg =>
    have g1 : 100 < s.trig := by omega
    have HF : Hid (stpW s = 2) := stpW_no fun e => h1 e.t1
    clear h1
    go_enter Try.func12, Try.ntmps12
    go_wp2_with fail
    go_ret
    exact ⟨ret_int HF.out.symm, (Below.refl _ _).alloc (Nat.le_refl _) _⟩
  by_cases h2 : 1 ≤ s.base
  case neg =>
    have g1 : s.base < 1 := by omega
    have HF : Hid (stpW s = 2) := stpW_no fun e => h2 e.b0
    clear h2
    go_enter Try.func12, Try.ntmps12
    go_wp2_with fail
    go_ret
    exact ⟨ret_int HF.out.symm, (Below.refl _ _).alloc (Nat.le_refl _) _⟩
  by_cases h3 : s.base ≤ 1073741824
  case neg =>
    have g1 : 1073741824 < s.base := by omega
    have HF : Hid (stpW s = 2) := stpW_no fun e => h3 e.b1
    clear h3
    go_enter Try.func12, Try.ntmps12
    go_wp2_with fail
    go_ret
    exact ⟨ret_int HF.out.symm, (Below.refl _ _).alloc (Nat.le_refl _) _⟩
  by_cases h4 : 2 ≤ s.fac
  case neg =>
    have g1 : s.fac < 2 := by omega
    have HF : Hid (stpW s = 2) := stpW_no fun e => h4 e.f0
    clear h4
    go_enter Try.func12, Try.ntmps12
    go_wp2_with fail
    go_ret
    exact ⟨ret_int HF.out.symm, (Below.refl _ _).alloc (Nat.le_refl _) _⟩
  by_cases h5 : s.fac ≤ 100
  case neg =>
    have g1 : 100 < s.fac := by omega
    have HF : Hid (stpW s = 2) := stpW_no fun e => h5 e.f1
    clear h5
    go_enter Try.func12, Try.ntmps12
    go_wp2_with fail
    go_ret
    exact ⟨ret_int HF.out.symm, (Below.refl _ _).alloc (Nat.le_refl _) _⟩
  have HF : Hid (stpW s = 0) := stpW_yes ⟨h0, h1, h2, h3, h4, h5⟩
  go_enter Try.func12, Try.ntmps12
  go_wp2_with fail
  go_ret
  exact ⟨ret_int HF.out.symm, (Below.refl _ _).alloc (Nat.le_refl _) _⟩

/-- A level's bound. -/
noncomputable def boundW (s : Stp) (lev : Int) : Int :=
  if stpW s ≠ 0 then 0 else if lev = 0 then s.trig else if lev = 1 then s.base else if lev = 2 then s.base * s.fac else if lev = 3 then s.base * s.fac * s.fac else 0
theorem boundW_pos {s : Stp} {lev : Int} (h : stpW s = 0) (h0 : 0 ≤ lev) (h1 : lev < 4) : 1 ≤ boundW s lev ∧ boundW s lev ≤ 10737418240000 := by
  have hf := stpW_fine h
  have e1 : 1 ≤ s.base * s.fac := by have := Int.mul_le_mul hf.b0 (show 1 ≤ s.fac from by have := hf.f0; omega) (by omega) (by have := hf.b0; omega); simpa using this
  have e2 : s.base * s.fac ≤ 107374182400 := by have := Int.mul_le_mul hf.b1 hf.f1 (by have := hf.f0; omega) (by omega); simpa using this
  have e3 : 1 ≤ s.base * s.fac * s.fac := by have := Int.mul_le_mul e1 (show 1 ≤ s.fac from by have := hf.f0; omega) (by omega) (by omega); simpa using this
  have e4 : s.base * s.fac * s.fac ≤ 10737418240000 := by have := Int.mul_le_mul e2 hf.f1 (by have := hf.f0; omega) (by omega); simpa using this
  have := hf.t0
  have := hf.t1
  have := hf.b0
  have := hf.b1
  unfold boundW
  rw [if_neg (by simp [h])]
  split
  · omega
  · split
    · omega
    · split
      · omega
      · split
        · omega
        · omega
set_option maxRecDepth 100000 in
set_option maxHeartbeats 2000000 in
theorem bound_any (s : Stp) (lev : Int) (w : World) :
    Calls Try.prog 21 #[.agg (stpCells s).toArray, .int .i64 lev] w fun e w' => e = .returned (.int .i64 (boundW s lev)) ∧ Below w.heap.size w w' := by
  have HCK := Lib.hid (fun w' => setup_any s w')
  unfold stpCells at *
  go_enter Try.func21, Try.ntmps21
  go_upto_region 1 with fail
  refine wp_gen fun w1 hw1 => ?_
  have HX1 : Hid (Blk w1 w.heap.size #[.int .i64 s.trig, .int .i64 s.base, .int .i64 s.fac] 27) := by rw [hw1]; exact Blk.at_new rfl rfl
  have HW1 : Hid (Below w.heap.size w w1) := by rw [hw1]; exact (Below.refl _ _).alloc (Nat.le_refl _) _
  clear hw1
  have x0 : w1.cell? ⟨w.heap.size, 0, none⟩ = some (.int .i64 s.trig) := HX1.out.cell rfl
  have x1 : w1.cell? ⟨w.heap.size, 1, none⟩ = some (.int .i64 s.base) := HX1.out.cell rfl
  have x2 : w1.cell? ⟨w.heap.size, 2, none⟩ = some (.int .i64 s.fac) := HX1.out.cell rfl
  go_wp2_with fail
  clear x0 x1 x2
  refine Calls.mono (HCK.out _) ?_
  rintro _ w2 ⟨rfl, hb⟩
  have HX2 : Hid (Blk w2 w.heap.size #[.int .i64 s.trig, .int .i64 s.base, .int .i64 s.fac] 27) := HX1.out.below hb HX1.out.lt
  have HW2 : Hid (Below w.heap.size w w2) := HW1.out.trans (hb.mono HW1.out.size)
  clear hb HX1 HW1
  obtain ⟨ck, hck⟩ : ∃ c, stpW s = c := ⟨_, rfl⟩
  have HK := Lib.hid hck
  rw [hck]
  clear hck
  by_cases hc0 : ck = 0
  case neg =>
    have g0 : (ck == 0) = false := by simpa using hc0
    have g1 : (ck != 0) = true := by simpa using hc0
    have HF : Hid (boundW s lev = 0) := by show _ = _; unfold boundW; rw [if_pos fun e => hc0 (by rw [← HK.out]; exact e)]
    clear hc0
    go_wp2_with fail
    go_ret
    exact ⟨ret_int HF.out.symm, HW2.out⟩
  subst hc0
  by_cases hl0 : 0 ≤ lev
  case neg =>
    have g0 : lev < 0 := by omega
    have HF : Hid (boundW s lev = 0) := by show _ = _; unfold boundW; rw [if_neg (by simp [HK.out]), if_neg (by omega), if_neg (by omega), if_neg (by omega), if_neg (by omega)]
    clear hl0
    go_wp2_with fail
    go_ret
    exact ⟨ret_int HF.out.symm, HW2.out⟩
  by_cases hl1 : lev < 4
  case neg =>
    have g0 : 4 ≤ lev := by omega
    have HF : Hid (boundW s lev = 0) := by show _ = _; unfold boundW; rw [if_neg (by simp [HK.out]), if_neg (by omega), if_neg (by omega), if_neg (by omega), if_neg (by omega)]
    clear hl1
    go_wp2_with fail
    go_ret
    exact ⟨ret_int HF.out.symm, HW2.out⟩
  have x0 : w2.cell? ⟨w.heap.size, 0, none⟩ = some (.int .i64 s.trig) := HX2.out.cell rfl
  have x1 : w2.cell? ⟨w.heap.size, 1, none⟩ = some (.int .i64 s.base) := HX2.out.cell rfl
  have x2 : w2.cell? ⟨w.heap.size, 2, none⟩ = some (.int .i64 s.fac) := HX2.out.cell rfl
  have HFI := Lib.hid (stpW_fine HK.out)
  have e1 : 1 ≤ s.base * s.fac := by have := Int.mul_le_mul HFI.out.b0 (show 1 ≤ s.fac from by have := HFI.out.f0; omega) (by omega) (by have := HFI.out.b0; omega); simpa using this
  have e2 : s.base * s.fac ≤ 107374182400 := by have := Int.mul_le_mul HFI.out.b1 HFI.out.f1 (by have := HFI.out.f0; omega) (by omega); simpa using this
  have e3 : 1 ≤ s.base * s.fac * s.fac := by have := Int.mul_le_mul e1 (show 1 ≤ s.fac from by have := HFI.out.f0; omega) (by omega) (by omega); simpa using this
  have e4 : s.base * s.fac * s.fac ≤ 10737418240000 := by have := Int.mul_le_mul e2 HFI.out.f1 (by have := HFI.out.f0; omega) (by omega); simpa using this
  have hcase : lev = 0 ∨ lev = 1 ∨ lev = 2 ∨ lev = 3 := by omega
  have HB0 : Hid (boundW s 0 = s.trig) := by show _ = _; unfold boundW; rw [if_neg (by simp [HK.out]), if_pos rfl]
  have HB1 : Hid (boundW s 1 = s.base) := by show _ = _; unfold boundW; rw [if_neg (by simp [HK.out]), if_neg (by omega), if_pos rfl]
  have HB2 : Hid (boundW s 2 = s.base * s.fac) := by show _ = _; unfold boundW; rw [if_neg (by simp [HK.out]), if_neg (by omega), if_neg (by omega), if_pos rfl]
  have HB3 : Hid (boundW s 3 = s.base * s.fac * s.fac) := by show _ = _; unfold boundW; rw [if_neg (by simp [HK.out]), if_neg (by omega), if_neg (by omega), if_neg (by omega), if_pos rfl]
  clear hl0 hl1 HFI
  rcases hcase with rfl | rfl | rfl | rfl
  · clear e1 e2 e3 e4
    go_wp2_with fail
    go_ret
    exact ⟨ret_int HB0.out.symm, HW2.out⟩
  · clear e1 e2 e3 e4
    go_wp2_with fail
    refine wp_loop_rounds 1 ?_
    rw [rounds_succ]
    go_wp2_with fail
    go_ret
    exact ⟨ret_int HB1.out.symm, HW2.out⟩
  · obtain ⟨p, hp⟩ : ∃ p, s.base * s.fac = p := ⟨_, rfl⟩
    rw [hp] at e1 e2 HB2
    have y1 : RowKit.wrap64 (s.base * s.fac) = p := by rw [hp]; unfold RowKit.wrap64; omega
    have y2 : p < 1152921504606846976 := by omega
    have y3 : min 1152921504606846976 p = p := by omega
    clear e3 e4 e1 e2 hp HB3
    go_wp2_with fail
    refine wp_loop_rounds 2 ?_
    rw [rounds_succ]
    go_wp2_with fail
    rw [rounds_succ]
    go_wp2_with fail
    go_ret
    exact ⟨ret_int HB2.out.symm, HW2.out⟩
  · obtain ⟨p, hp⟩ : ∃ p, s.base * s.fac = p := ⟨_, rfl⟩
    rw [hp] at e1 e2 e3 e4 HB3
    obtain ⟨q, hq⟩ : ∃ q, p * s.fac = q := ⟨_, rfl⟩
    rw [hq] at e3 e4 HB3
    have y1 : RowKit.wrap64 (s.base * s.fac) = p := by rw [hp]; unfold RowKit.wrap64; omega
    have y2 : p < 1152921504606846976 := by omega
    have y3 : min 1152921504606846976 p = p := by omega
    have z1 : RowKit.wrap64 (p * s.fac) = q := by rw [hq]; unfold RowKit.wrap64; omega
    have z2 : q < 1152921504606846976 := by omega
    have z3 : min 1152921504606846976 q = q := by omega
    clear e3 e4 e1 e2 hp hq HB2
    go_wp2_with fail
    refine wp_loop_rounds 3 ?_
    rw [rounds_succ]
    go_wp2_with fail
    rw [rounds_succ]
    go_wp2_with fail
    rw [rounds_succ]
    go_wp2_with fail
    go_ret
    exact ⟨ret_int HB3.out.symm, HW2.out⟩
end Go.Proofs.Ytkcohhldmhdcfaa

namespace Go.Proofs.Ytkcohhldmhdcfaa
open Go.RowKit

/-- May a version and a setup be? -/
noncomputable def mayW (v : Ver) (s : Stp) : Int := Ent.lex (chkW v) (stpW s)
theorem mayW_ok {v : Ver} {s : Stp} (h : mayW v s = 0) : chkW v = 0 ∧ stpW s = 0 := by
  unfold mayW Ent.lex at h
  split at h
  · contradiction
  · rename_i h1; exact ⟨by simpa using h1, h⟩
theorem mayW_of {v : Ver} {s : Stp} (h1 : chkW v = 0) (h2 : stpW s = 0) : mayW v s = 0 := by unfold mayW Ent.lex; simp [h1, h2]
structure Boxed (w : World) (b1 b2 : Nat) (v : Ver) (lv : Value) (s : Stp) : Prop where
  ver : Blk w b1 (verCells v lv).toArray 25
  stp : Blk w b2 (stpCells s).toArray 27
theorem Boxed.below {w w' : World} {b1 b2 : Nat} {v : Ver} {lv : Value} {s : Stp} (h : Boxed w b1 b2 v lv s) (hb : Below w.heap.size w w') : Boxed w' b1 b2 v lv s := ⟨h.ver.below hb h.ver.lt, h.stp.below hb h.stp.lt⟩
theorem Boxed.cells {w : World} {b1 b2 : Nat} {v : Ver} {lv : Value} {s : Stp} (h : Boxed w b1 b2 v lv s) : w.cell? ⟨b1, 0, none⟩ = some lv ∧ w.cell? ⟨b1, 1, none⟩ = some (.int .u64 v.next) ∧ w.cell? ⟨b1, 2, none⟩ = some (.int .u64 v.seq) ∧ w.cell? ⟨b1, 3, none⟩ = some (.int .u64 v.log) ∧ w.cell? ⟨b2, 0, none⟩ = some (.int .i64 s.trig) ∧ w.cell? ⟨b2, 1, none⟩ = some (.int .i64 s.base) ∧ w.cell? ⟨b2, 2, none⟩ = some (.int .i64 s.fac) := ⟨h.ver.cell rfl, h.ver.cell rfl, h.ver.cell rfl, h.ver.cell rfl, h.stp.cell rfl, h.stp.cell rfl, h.stp.cell rfl⟩
theorem boxed_two (w : World) (v : Ver) (lv : Value) (s : Stp) : Boxed ((w.alloc (.cells (verCells v lv).toArray 25)).alloc (.cells (stpCells s).toArray 27)) w.heap.size (w.heap.size + 1) v lv s := ⟨(Blk.at_new rfl rfl).alloc _, blk_two w _ _ _⟩

set_option maxRecDepth 100000 in
set_option maxHeartbeats 4000000 in
theorem may_any (F : Nat → Prop) (v : Ver) (s : Stp) (lv : Value) (w : World) (h : Rw (rowK filK) F w lv v.levels) (hw : v.wf) (hfew : cntTo v.levels v.levels.length ≤ 1000000) :
    Calls Try.prog 53 #[.agg (verCells v lv).toArray, .agg (stpCells s).toArray] w fun e w' => e = .returned (.int .i64 (mayW v s)) ∧ Below w.heap.size w w' := by
  obtain ⟨xa, ca, rfl⟩ := h.isSlice
  have HCK := Lib.hid (fun w' (hb : Below w.heap.size w w') => check_any F v _ w' (h.below hb) hw hfew)
  have HCS := Lib.hid (fun w' => setup_any s w')
  have HMW : Hid (mayW v s = Ent.lex (chkW v) (stpW s)) := rfl
  clear h
  generalize v.levels.length = m at *
  unfold verCells at HCK ⊢
  unfold stpCells at HCS ⊢
  go_enter Try.func53, Try.ntmps53
  go_upto_region 1 with fail
  refine wp_gen fun w1 hw1 => ?_
  have HX1 : Hid (Boxed w1 w.heap.size (w.heap.size + 1) v (.slice xa m ca) s) := by rw [hw1]; exact boxed_two _ _ _ _
  have HW1 : Hid (Below w.heap.size w w1) := by rw [hw1]; exact below_two _ _ _
  clear hw1
  obtain ⟨b1, hb1⟩ : ∃ b, w.heap.size = b := ⟨_, rfl⟩
  obtain ⟨b2, hb2⟩ : ∃ b, w.heap.size + 1 = b := ⟨_, rfl⟩
  rw [hb2] at HX1 ⊢
  have HXS := Lib.hid hb1
  rw [hb1] at HX1 ⊢
  clear hb1 hb2
  have HKP : Hid (∀ W, Below w1.heap.size w1 W → (W.cell? ⟨b1, 0, none⟩ = some (.slice xa m ca) ∧ W.cell? ⟨b1, 1, none⟩ = some (.int .u64 v.next) ∧ W.cell? ⟨b1, 2, none⟩ = some (.int .u64 v.seq) ∧ W.cell? ⟨b1, 3, none⟩ = some (.int .u64 v.log) ∧ W.cell? ⟨b2, 0, none⟩ = some (.int .i64 s.trig) ∧ W.cell? ⟨b2, 1, none⟩ = some (.int .i64 s.base) ∧ W.cell? ⟨b2, 2, none⟩ = some (.int .i64 s.fac))) := fun W hb => (HX1.out.below hb).cells
  have HB0 : Hid (Below w1.heap.size w1 w1.drew) := below_drew (Below.refl _ _)
  refine wp_region_held_drew (S := fun w' => (w'.cell? ⟨b1, 0, none⟩ = some (.slice xa m ca) ∧ w'.cell? ⟨b1, 1, none⟩ = some (.int .u64 v.next) ∧ w'.cell? ⟨b1, 2, none⟩ = some (.int .u64 v.seq) ∧ w'.cell? ⟨b1, 3, none⟩ = some (.int .u64 v.log) ∧ w'.cell? ⟨b2, 0, none⟩ = some (.int .i64 s.trig) ∧ w'.cell? ⟨b2, 1, none⟩ = some (.int .i64 s.base) ∧ w'.cell? ⟨b2, 2, none⟩ = some (.int .i64 s.fac))) (by kernel_rfl) (HKP.out _ HB0.out) (fun hHeld => ?_)
  refine wpAnyH_take (i := 0) (oi := ?oR_1_0) (v := ?vR_1_0) ?eR_1_0 (by kernel_rfl) (by kernel_rfl) (by kernel_rfl) ?qR_1_0 (Or.inl ⟨?wR_1_0, ?yR_1_0⟩) (by assumption) ?rR_1_0
  case eR_1_0 => simp only [List.getElem?_toArray, List.getElem?_cons_zero]; rfl
  case wR_1_0 => rfl
  case qR_1_0 => exact fun _ _ _ h => h
  case yR_1_0 => (intro w hSw; (try dsimp only at hSw); go_simp; try with_reducible rfl)
  try simp only [Act.put, List.setIfInBounds_toArray, List.set_cons_zero, List.set_cons_succ]
  refine wpAnyH_take (i := 2) (oi := ?oR_2_2) (v := ?vR_2_2) ?eR_2_2 (by kernel_rfl) (by kernel_rfl) (by kernel_rfl) ?qR_2_2 (Or.inl ⟨?wR_2_2, ?yR_2_2⟩) (by assumption) ?rR_2_2
  case eR_2_2 => simp only [List.getElem?_toArray, List.getElem?_cons_succ, List.getElem?_cons_zero]; rfl
  case wR_2_2 => rfl
  case qR_2_2 => exact fun _ _ _ h => h
  case yR_2_2 => (intro w hSw; (try dsimp only at hSw); go_simp; try with_reducible rfl)
  try simp only [Act.put, List.setIfInBounds_toArray, List.set_cons_zero, List.set_cons_succ]
  have hOld := hHeld
  clear hHeld
  refine wpAnyH_ready (rs := [1]) (by kernel_rfl) (by simp) ?_
  refine AllReadyH.cons (o := ?oR_3_1) ?eR_3_1 (fun K hK => ?_) AllReadyH.nil
  case eR_3_1 => simp only [List.getElem?_toArray, List.getElem?_cons_succ, List.getElem?_cons_zero]; rfl
  go_simp
  (go_at_call 33; refine Calls.mono (HCK.out _ (HW1.out.trans (HB0.out.mono HW1.out.size))) ?_; rintro _ x1 ⟨rfl, hb1⟩; have HB1 : Hid (Below w1.heap.size w1 x1) := HB0.out.trans (hb1.mono HB0.out.size))
  try go_wp2_with fail
  refine hK.out _ _ (HKP.out _ HB1.out) (fun hHeld => ?_)
  clear hK hOld
  try simp only [Act.put, List.setIfInBounds_toArray, List.set_cons_zero, List.set_cons_succ]
  have hOld := hHeld
  clear hHeld
  refine wpAnyH_ready (rs := [3]) (by kernel_rfl) (by simp) ?_
  refine AllReadyH.cons (o := ?oR_4_3) ?eR_4_3 (fun K hK => ?_) AllReadyH.nil
  case eR_4_3 => simp only [List.getElem?_toArray, List.getElem?_cons_succ, List.getElem?_cons_zero]; rfl
  go_simp
  (go_at_call 12; refine Calls.mono (HCS.out _) ?_; rintro _ x2 ⟨rfl, hb2⟩; have HB2 : Hid (Below w1.heap.size w1 x2) := HB1.out.trans (hb2.mono HB1.out.size))
  try go_wp2_with fail
  refine hK.out _ _ (HKP.out _ HB2.out) (fun hHeld => ?_)
  clear hK hOld
  try simp only [Act.put, List.setIfInBounds_toArray, List.set_cons_zero, List.set_cons_succ]
  have hOld := hHeld
  clear hHeld
  refine wpAnyH_ready (rs := [4]) (by kernel_rfl) (by simp) ?_
  refine AllReadyH.cons (o := ?oR_5_4) ?eR_5_4 (fun K hK => ?_) AllReadyH.nil
  case eR_5_4 => simp only [List.getElem?_toArray, List.getElem?_cons_succ, List.getElem?_cons_zero]; rfl
  go_simp
  skip
  try go_wp2_with fail
  refine hK.out _ _ (HKP.out _ (HB2.out.alloc HB2.out.size _)) (fun hHeld => ?_)
  clear hK hOld
  try simp only [Act.put, List.setIfInBounds_toArray, List.set_cons_zero, List.set_cons_succ]
  have hOld := hHeld
  clear hHeld
  refine wpAnyH_ready (rs := [5]) (by kernel_rfl) (by simp) ?_
  refine AllReadyH.cons (o := ?oR_6_5) ?eR_6_5 (fun K hK => ?_) AllReadyH.nil
  case eR_6_5 => simp only [List.getElem?_toArray, List.getElem?_cons_succ, List.getElem?_cons_zero]; rfl
  go_simp
  (go_at_call 102; refine calls_gen fun y1 hy1 => ?_; have HZ : Hid (Blk y1 x2.heap.size #[.int .i64 (chkW v), .int .i64 (stpW s)] 30) := (by rw [hy1]; exact Blk.at_new rfl rfl); have HBy : Hid (Below w1.heap.size w1 y1) := (by rw [hy1]; exact HB2.out.alloc HB2.out.size _); refine Calls.mono (or2_any _ _ _ y1 HZ.out) ?_; rintro _ x3 ⟨rfl, hb3⟩; have HB3 : Hid (Below w1.heap.size w1 x3) := HBy.out.trans (hb3.mono HBy.out.size))
  try go_wp2_with fail
  refine hK.out _ _ (HKP.out _ HB3.out) (fun hHeld => ?_)
  clear hK hOld
  try simp only [Act.put, List.setIfInBounds_toArray, List.set_cons_zero, List.set_cons_succ]
  refine wpAnyH_take (i := 6) (oi := ?oR_7_6) (v := ?vR_7_6) ?eR_7_6 (by kernel_rfl) (by kernel_rfl) (by kernel_rfl) ?qR_7_6 (Or.inl ⟨?wR_7_6, ?yR_7_6⟩) (by assumption) ?rR_7_6
  case eR_7_6 => simp only [List.getElem?_toArray, List.getElem?_cons_succ, List.getElem?_cons_zero]; rfl
  case wR_7_6 => rfl
  case qR_7_6 => exact fun _ _ _ h => h
  case yR_7_6 => (intro w hSw; (try dsimp only at hSw); go_simp; try with_reducible rfl)
  try simp only [Act.put, List.setIfInBounds_toArray, List.set_cons_zero, List.set_cons_succ]
  refine wpAnyH_done (by kernel_rfl) ?_ _
  go_wp2_with fail
  go_ret
  exact ⟨ret_int HMW.out.symm, HW1.out.trans (HB3.out.mono HW1.out.size)⟩

theorem wrap_div {x d : Int} (h0 : 0 ≤ x) (hd : 0 < d) (h1 : x ≤ 1000000000000000) : RowKit.wrap64 (x.tdiv d) = x / d := by
  rw [Int.tdiv_eq_ediv_of_nonneg h0]
  have q0 : 0 ≤ x / d := Int.ediv_nonneg h0 (by omega)
  have q1 : x / d ≤ x := Int.ediv_le_self d h0
  unfold RowKit.wrap64
  omega
/-- A level's score. -/
noncomputable def scoreW (v : Ver) (s : Stp) (i : Nat) : Int := if boundW s i = 0 then 0 else (if i = 0 then ((lat v.levels 0).length : Int) else bytesOfLev v i) * 100 / boundW s i

set_option maxRecDepth 100000 in
set_option maxHeartbeats 4000000 in
theorem score_any (F : Nat → Prop) (v : Ver) (s : Stp) (lv : Value) (i : Nat) (w : World) (h : Rw (rowK filK) F w lv v.levels) (hw : v.wf) (hck : chkW v = 0) (hst : stpW s = 0) (hi : i < 5) :
    Calls Try.prog 63 #[.agg (verCells v lv).toArray, .agg (stpCells s).toArray, .int .i64 (i : Int)] w fun e w' => e = .returned (.int .i64 (scoreW v s i)) ∧ Below w.heap.size w w' := by
  have h5 : v.levels.length = 5 := (good_small hck).1
  have hfew : cntTo v.levels v.levels.length ≤ 10000 := (chkW_good hck).2.2
  have hil : i < v.levels.length := by rw [h5]; exact hi
  obtain ⟨bl, ol, ca, el, hbl, hlt, hcl⟩ := levs_at h (by omega)
  obtain ⟨u, hu, hcu⟩ := hcl i hil
  subst el
  have HLL : Hid ((lat v.levels i).length ≤ 10000) := Nat.le_trans (lev_le_cnt hil) hfew
  have HVB := Lib.hid (fun w' (hb : Below w.heap.size w w') => vbytes_any F v _ (i : Int) w' (h.below hb) hw (by omega) ⟨by omega, by omega⟩)
  have HBD := Lib.hid (fun w' => bound_any s (i : Int) w')
  have HBY : Hid (0 ≤ bytesOfLev v (i : Int) ∧ bytesOfLev v (i : Int) ≤ 1000000000000) := by
    have hb := bytesTo_le (l := lat v.levels i) ((chkW_good hck).2.1.fine i hil) _ (Nat.le_refl _)
    have := HLL.out
    have e : bytesOfLev v (i : Int) = bytesTo (lat v.levels i) (lat v.levels i).length := by
      unfold bytesOfLev
      rw [if_pos ⟨hck, by omega, by omega⟩]
      rfl
    rw [e]
    exact ⟨hb.1, by omega⟩
  have HBP : Hid (boundW s (i : Int) = 0 ∨ 1 ≤ boundW s (i : Int)) := by
    by_cases h4 : i < 4
    · exact .inr (boundW_pos hst (by omega) (by omega)).1
    · refine .inl ?_
      unfold boundW
      rw [if_neg (by simp [hst]), if_neg (by omega), if_neg (by omega), if_neg (by omega), if_neg (by omega)]
  rw [h5] at HVB ⊢
  have HSW : Hid (scoreW v s i = if boundW s i = 0 then 0 else (if i = 0 then ((lat v.levels 0).length : Int) else bytesOfLev v i) * 100 / boundW s i) := rfl
  have HL0 : Hid (i = 0 → (lat v.levels 0).length = (lat v.levels i).length) := fun e => by rw [e]
  obtain ⟨ua, uc, rfl⟩ := hu.isSlice
  obtain ⟨n, hn⟩ : ∃ n, (lat v.levels i).length = n := ⟨_, rfl⟩
  rw [hn] at hcu HLL HL0
  have HNL := Lib.hid hn
  clear hcl hu h h5 hfew hil hck hst hw hn
  unfold verCells at HVB ⊢
  unfold stpCells at HBD ⊢
  go_enter Try.func63, Try.ntmps63
  go_upto_region 1 with fail
  refine wp_gen fun w1 hw1 => ?_
  have HX1 : Hid (Boxed w1 w.heap.size (w.heap.size + 1) v (.slice (some ⟨bl, ol, none⟩) 5 ca) s) := by rw [hw1]; exact boxed_two _ _ _ _
  have HW1 : Hid (Below w.heap.size w w1) := by rw [hw1]; exact below_two _ _ _
  clear hw1
  obtain ⟨b1, hb1⟩ : ∃ b, w.heap.size = b := ⟨_, rfl⟩
  obtain ⟨b2, hb2⟩ : ∃ b, w.heap.size + 1 = b := ⟨_, rfl⟩
  have HXS := Lib.hid hb1
  rw [hb2, hb1] at HX1 ⊢
  rw [hb1] at hlt HVB
  have c0 : w1.cell? ⟨bl, ol + i, none⟩ = some (.slice ua n uc) := by rw [HW1.out.cell (p := ⟨bl, ol + i, none⟩) (by rw [hb1]; exact hlt)]; exact hcu
  clear hb1 hb2 hcu
  have t1 : (i : Int) < 5 := by omega
  have t2 : 0 ≤ (i : Int) := by omega
  by_cases hz : i = 0
  · subst hz
    rw [show ((0 : Nat) : Int) = 0 from rfl] at HBD HBP HSW
    have c0 : w1.cell? ⟨bl, ol, none⟩ = some (.slice ua n uc) := c0
    obtain ⟨x0, -, -, -, x4, x5, x6⟩ := HX1.out.cells
    go_wp2_with fail
    clear x0 x4 x5 x6 c0
    refine Calls.mono (HBD.out _) ?_
    rintro _ w2 ⟨rfl, hb⟩
    have HW2 : Hid (Below w.heap.size w w2) := HW1.out.trans (hb.mono HW1.out.size)
    clear hb HX1 HW1
    obtain ⟨bd, hbd⟩ : ∃ c, boundW s 0 = c := ⟨_, rfl⟩
    rw [hbd] at HBP HSW ⊢
    clear hbd
    by_cases hb0 : bd = 0
    · subst hb0
      have HF : Hid (scoreW v s 0 = 0) := by show _ = _; rw [HSW.out, if_pos rfl]
      go_wp2_with fail
      go_ret
      exact ⟨ret_int HF.out.symm, by rw [HXS.out]; exact HXS.out ▸ HW2.out⟩
    · have g0 : (bd == 0) = false := by simpa using hb0
      have g1 : (bd != 0) = true := by simpa using hb0
      have g2 : 0 < bd := by have := HBP.out; omega
      have HF : Hid (scoreW v s 0 = (n : Int) * 100 / bd) := by show _ = _; rw [HSW.out, if_neg hb0, if_pos trivial, HNL.out]
      have g3 : RowKit.wrap64 ((n : Int) * 100) = (n : Int) * 100 := by have := HLL.out; unfold RowKit.wrap64; omega
      have g4 : 0 ≤ (n : Int) * 100 := by omega
      have HQ : Hid (RowKit.wrap64 (((n : Int) * 100).tdiv bd) = (n : Int) * 100 / bd) := wrap_div g4 g2 (by have := HLL.out; omega)
      go_wp2_with fail
      go_ret
      exact ⟨ret_int (HQ.out.trans HF.out.symm), by rw [HXS.out]; exact HXS.out ▸ HW2.out⟩
  · have t3 : 0 < (i : Int) := by omega
    obtain ⟨x0, x1, x2, x3, x4, x5, x6⟩ := HX1.out.cells
    go_wp2_with fail
    clear x0 x1 x2 x3 x4 x5 x6 c0
    refine Calls.mono (HVB.out _ (HXS.out ▸ HW1.out)) ?_
    rintro _ w2 ⟨rfl, hb⟩
    have HX2 := Lib.hid (HX1.out.below hb)
    have HW2 : Hid (Below w.heap.size w w2) := HW1.out.trans (hb.mono HW1.out.size)
    clear hb HX1 HW1
    obtain ⟨y, hy⟩ : ∃ y, bytesOfLev v (i : Int) = y := ⟨_, rfl⟩
    rw [hy] at HBY HSW ⊢
    clear hy
    obtain ⟨x0, -, -, -, x4, x5, x6⟩ := HX2.out.cells
    go_wp2_with fail
    clear x0 x4 x5 x6
    refine Calls.mono (HBD.out _) ?_
    rintro _ w3 ⟨rfl, hb⟩
    have HW3 : Hid (Below w.heap.size w w3) := HW2.out.trans (hb.mono HW2.out.size)
    clear hb HX2 HW2
    obtain ⟨bd, hbd⟩ : ∃ c, boundW s (i : Int) = c := ⟨_, rfl⟩
    rw [hbd] at HBP HSW ⊢
    clear hbd
    by_cases hb0 : bd = 0
    · subst hb0
      have HF : Hid (scoreW v s i = 0) := by show _ = _; rw [HSW.out, if_pos rfl]
      go_wp2_with fail
      go_ret
      exact ⟨ret_int HF.out.symm, by rw [HXS.out]; exact HXS.out ▸ HW3.out⟩
    · have g0 : (bd == 0) = false := by simpa using hb0
      have g1 : (bd != 0) = true := by simpa using hb0
      have g2 : 0 < bd := by have := HBP.out; omega
      have HF : Hid (scoreW v s i = y * 100 / bd) := by show _ = _; rw [HSW.out, if_neg hb0, if_neg hz]
      have g3 : RowKit.wrap64 (y * 100) = y * 100 := by have := HBY.out; unfold RowKit.wrap64; omega
      have g4 : 0 ≤ y * 100 := by have := HBY.out; omega
      have HQ : Hid (RowKit.wrap64 ((y * 100).tdiv bd) = y * 100 / bd) := wrap_div g4 g2 (by have := HBY.out; omega)
      go_wp2_with fail
      go_ret
      exact ⟨ret_int (HQ.out.trans HF.out.symm), by rw [HXS.out]; exact HXS.out ▸ HW3.out⟩
end Go.Proofs.Ytkcohhldmhdcfaa

namespace Go.Proofs.Ytkcohhldmhdcfaa
open Go.RowKit

/-- The level with the greatest score, of the first k. -/
noncomputable def worstTo (v : Ver) (s : Stp) : Nat → Nat × Int
  | 0 => (0, 0)
  | k + 1 => if (worstTo v s k).2 < scoreW v s k then (k, scoreW v s k) else worstTo v s k
theorem worstTo_pos (v : Ver) (s : Stp) : ∀ k, 0 ≤ (worstTo v s k).2
  | 0 => Int.le_refl _
  | k + 1 => by
    have := worstTo_pos v s k
    rw [worstTo]
    split
    · show 0 ≤ scoreW v s k; omega
    · exact this
theorem worstTo_lt (v : Ver) (s : Stp) : ∀ k, k ≤ 5 → (worstTo v s k).1 < 5
  | 0, _ => by show 0 < 5; decide
  | k + 1, h => by
    have := worstTo_lt v s k (by omega)
    rw [worstTo]
    split
    · show k < 5; omega
    · exact this
set_option maxRecDepth 100000 in
set_option maxHeartbeats 4000000 in
theorem worst_any (F : Nat → Prop) (v : Ver) (s : Stp) (lv : Value) (w : World) (h : Rw (rowK filK) F w lv v.levels) (hw : v.wf) (hck : chkW v = 0) (hst : stpW s = 0) :
    Calls Try.prog 54 #[.agg (verCells v lv).toArray, .agg (stpCells s).toArray] w fun e w' => e = .returned (.tuple #[.int .i64 ((worstTo v s 5).1 : Int), .int .i64 (worstTo v s 5).2]) ∧ Below w.heap.size w w' := by
  have HSC := Lib.hid (fun i (hi : i < 5) w' (hb : Below w.heap.size w w') => score_any F v s lv i w' (h.below hb) hw hck hst hi)
  obtain ⟨xa, ca, rfl⟩ := h.isSlice
  clear h hw hck hst
  generalize v.levels.length = m at *
  unfold verCells at HSC ⊢
  unfold stpCells at HSC ⊢
  go_enter Try.func54, Try.ntmps54
  go_upto_region 1 with fail
  refine wp_gen fun w1 hw1 => ?_
  have HX1 : Hid (Boxed w1 w.heap.size (w.heap.size + 1) v (.slice xa m ca) s) := by rw [hw1]; exact boxed_two _ _ _ _
  have HW1 : Hid (Below w.heap.size w w1) := by rw [hw1]; exact below_two _ _ _
  clear hw1
  obtain ⟨b1, hb1⟩ : ∃ b, w.heap.size = b := ⟨_, rfl⟩
  obtain ⟨b2, hb2⟩ : ∃ b, w.heap.size + 1 = b := ⟨_, rfl⟩
  have HXS : Hid (w.heap.size ≤ b1 ∧ w.heap.size ≤ b2) := ⟨by omega, by omega⟩
  rw [hb2, hb1] at HX1 ⊢
  clear hb1 hb2
  go_upto_region 2 with fail
  refine wp_gen fun w2 hw2 => ?_
  have HA2 : Hid (Blk w2 w1.heap.size #[.int .i64 0, .int .i64 0, .int .i64 0, .int .i64 0, .int .i64 0] 136) := by rw [hw2]; exact Blk.at_new rfl rfl
  have HB2 : Hid (Below w1.heap.size w1 w2) := by rw [hw2]; exact (Below.refl _ _).alloc (Nat.le_refl _) _
  clear hw2
  have HX2 := Lib.hid (HX1.out.below HB2.out)
  have HNE : Hid (b1 ≠ w1.heap.size ∧ b2 ≠ w1.heap.size) := ⟨fun e => by have := HX1.out.ver.lt; omega, fun e => by have := HX1.out.stp.lt; omega⟩
  have HW2 : Hid (Below w.heap.size w w2) := HW1.out.trans (HB2.out.mono HW1.out.size)
  have HAS : Hid (w.heap.size ≤ w1.heap.size) := HW1.out.size
  clear HX1 HW1 HB2
  generalize w1.heap.size = ab at *
  go_wp2_with fail
  go_loopw [4, 5, 8] (fun lev mv kv wr => ∃ (k : Nat) (cs : Array Value), kv = .int .i64 (k : Int) ∧ k ≤ 5 ∧ lev = .int .i64 ((worstTo v s k).1 : Int) ∧ mv = .int .i64 (worstTo v s k).2 ∧ Hid (Blk wr ab cs 136) ∧ Hid (cs.size = 5 ∧ ∀ j, j < 5 → ∃ n, cs[j]? = some (.int .i64 n)) ∧ Hid (Boxed wr b1 b2 v (.slice xa m ca) s) ∧ Hid (Below w.heap.size w wr)) (fun _ _ kv _ => 5 - (intOf kv).toNat)
  case atStart =>
    refine ⟨0, _, rfl, by omega, rfl, rfl, HA2.out, ⟨rfl, fun j hj => ?_⟩, HX2.out, HW2.out⟩
    exact ⟨0, by rcases (show j = 0 ∨ j = 1 ∨ j = 2 ∨ j = 3 ∨ j = 4 by omega) with rfl | rfl | rfl | rfl | rfl <;> rfl⟩
  case round =>
    obtain ⟨k, cs, rfl, hk, rfl, rfl, HA, HCS, HX, HW⟩ := hrel
    clear HA2 HX2 HW2
    by_cases hlt : k < 5
    · have t1 : (k : Int) < 5 := by omega
      have t2 : 0 ≤ (k : Int) := by omega
      have HWT : Hid (worstTo v s (k + 1) = if (worstTo v s k).2 < scoreW v s k then (k, scoreW v s k) else worstTo v s k) := rfl
      have HWP : Hid (0 ≤ (worstTo v s k).2) := worstTo_pos v s k
      have HSK := Lib.hid (HSC.out k hlt)
      obtain ⟨sc, hsc⟩ : ∃ x, scoreW v s k = x := ⟨_, rfl⟩
      obtain ⟨wl, hwl⟩ : ∃ x, (worstTo v s k).1 = x := ⟨_, rfl⟩
      obtain ⟨wm, hwm⟩ : ∃ x, (worstTo v s k).2 = x := ⟨_, rfl⟩
      have HPR : Hid (worstTo v s k = (wl, wm)) := by show _ = _; rw [← hwl, ← hwm]
      rw [hsc] at HSK HWT
      rw [hwm] at HWT HWP ⊢
      rw [hwl]
      clear hsc hwl hwm
      obtain ⟨x0, x1, x2, x3, x4, x5, x6⟩ := HX.out.cells
      go_upto_region 5 with fail
      go_wp2_with fail
      clear x0 x1 x2 x3 x4 x5 x6
      refine Calls.mono (HSK.out _ HW.out) ?_
      rintro _ w3 ⟨rfl, hb⟩
      have HA3 := Lib.hid (HA.out.below hb HA.out.lt)
      have HX3 := Lib.hid (HX.out.below hb)
      have HW3 : Hid (Below w.heap.size w w3) := HW.out.trans (hb.mono HW.out.size)
      clear hb HA HX HW
      obtain ⟨n0, hn0⟩ := HCS.out.2 k hlt
      have a0 : w3.cell? ⟨ab, k, none⟩ = some (.int .i64 n0) := HA3.out.cell hn0
      have a1 : w3.frozen? ⟨ab, k, none⟩ = false := HA3.out.free _
      go_upto_region 6 with fail
      clear a0 a1
      refine wp_gen fun w4 hw4 => ?_
      have HA4 : Hid (Blk w4 ab (cs.setIfInBounds k (.int .i64 sc)) 136) := by rw [hw4]; exact HA3.out.set k _
      have HX4 : Hid (Boxed w4 b1 b2 v (.slice xa m ca) s) := by rw [hw4]; exact ⟨HX3.out.ver.set_other _ _ HNE.out.1.symm, HX3.out.stp.set_other _ _ HNE.out.2.symm⟩
      have HW4 : Hid (Below w.heap.size w w4) := by rw [hw4]; exact HW3.out.setCell HAS.out _
      clear hw4 HA3 HX3 HW3
      have HC4 : Hid ((cs.setIfInBounds k (.int .i64 sc)).size = 5 ∧ ∀ j, j < 5 → ∃ n, (cs.setIfInBounds k (.int .i64 sc))[j]? = some (.int .i64 n)) := by
        refine ⟨by rw [Array.size_setIfInBounds]; exact HCS.out.1, fun j hj => ?_⟩
        by_cases hjk : k = j
        · subst hjk; exact ⟨sc, by rw [Array.getElem?_setIfInBounds_self_of_lt (by rw [HCS.out.1]; exact hlt)]⟩
        · rw [Array.getElem?_setIfInBounds_ne hjk]; exact HCS.out.2 j hj
      have a0 : w4.cell? ⟨ab, k, none⟩ = some (.int .i64 sc) := HA4.out.cell (by rw [Array.getElem?_setIfInBounds_self_of_lt (by rw [HCS.out.1]; exact hlt)])
      have t3 : max wm 0 = wm := by have := HWP.out; omega
      have t4 : (if 0 > wm then 0 else wm) = wm := if_neg (by have := HWP.out; omega)
      obtain ⟨cs2, hcs2⟩ : ∃ c, cs.setIfInBounds k (.int .i64 sc) = c := ⟨_, rfl⟩
      rw [hcs2] at HA4 HC4
      clear hcs2 HCS hn0
      by_cases hgt : wm < sc
      · have HR : Hid (worstTo v s (k + 1) = (k, sc)) := by show _ = _; rw [HWT.out, if_pos hgt]
        go_wp2_with fail
        go_region_law (fail)
        go_wp2_with fail
        go_roundw
        · exact ⟨k + 1, cs2, by go_num, by omega, by rw [HR.out], by rw [HR.out], HA4.out, HC4.out, ⟨HX4.out.ver, HX4.out.stp⟩, below_drew HW4.out⟩
        · simp only [intOf]; omega
      · have HR : Hid (worstTo v s (k + 1) = (wl, wm)) := by show _ = _; rw [HWT.out, if_neg hgt, HPR.out]
        go_wp2_with fail
        go_roundw
        · exact ⟨k + 1, cs2, by go_num, by omega, by rw [HR.out], by rw [HR.out], HA4.out, HC4.out, HX4.out, HW4.out⟩
        · simp only [intOf]; omega
    · have t1 : ¬ (k : Int) < 5 := by omega
      obtain rfl : k = 5 := by omega
      go_wp2_with fail
      go_ret2
      exact ⟨rfl, HW.out⟩

/-- Is a version at rest? -/
noncomputable def restB (v : Ver) (s : Stp) : Bool := decide (mayW v s = 0) && decide ((worstTo v s 5).2 < 100)
set_option maxRecDepth 100000 in
set_option maxHeartbeats 4000000 in
theorem rest_any (F : Nat → Prop) (v : Ver) (s : Stp) (lv : Value) (w : World) (h : Rw (rowK filK) F w lv v.levels) (hw : v.wf) (hfew : cntTo v.levels v.levels.length ≤ 1000000) :
    Calls Try.prog 14 #[.agg (verCells v lv).toArray, .agg (stpCells s).toArray] w fun e w' => e = .returned (.bool (restB v s)) ∧ Below w.heap.size w w' := by
  have HMA := Lib.hid (fun w' (hb : Below w.heap.size w w') => may_any F v s lv w' (h.below hb) hw hfew)
  have HWO := Lib.hid (fun (h0 : mayW v s = 0) w' (hb : Below w.heap.size w w') => worst_any F v s lv w' (h.below hb) hw (mayW_ok h0).1 (mayW_ok h0).2)
  have HRB : Hid (restB v s = (decide (mayW v s = 0) && decide ((worstTo v s 5).2 < 100))) := rfl
  obtain ⟨xa, ca, rfl⟩ := h.isSlice
  clear h hw hfew
  generalize v.levels.length = m at *
  unfold verCells at HMA HWO ⊢
  unfold stpCells at HMA HWO ⊢
  go_enter Try.func14, Try.ntmps14
  go_upto_region 1 with fail
  refine wp_gen fun w1 hw1 => ?_
  have HX1 : Hid (Boxed w1 w.heap.size (w.heap.size + 1) v (.slice xa m ca) s) := by rw [hw1]; exact boxed_two _ _ _ _
  have HW1 : Hid (Below w.heap.size w w1) := by rw [hw1]; exact below_two _ _ _
  clear hw1
  obtain ⟨b1, hb1⟩ : ∃ b, w.heap.size = b := ⟨_, rfl⟩
  obtain ⟨b2, hb2⟩ : ∃ b, w.heap.size + 1 = b := ⟨_, rfl⟩
  rw [hb2, hb1] at HX1 ⊢
  clear hb1 hb2
  obtain ⟨x0, x1, x2, x3, x4, x5, x6⟩ := HX1.out.cells
  go_wp2_with fail
  clear x0 x1 x2 x3 x4 x5 x6
  refine Calls.mono (HMA.out _ HW1.out) ?_
  rintro _ w2 ⟨rfl, hb⟩
  have HX2 := Lib.hid (HX1.out.below hb)
  have HW2 : Hid (Below w.heap.size w w2) := HW1.out.trans (hb.mono HW1.out.size)
  clear hb HX1 HW1 HMA
  obtain ⟨ck, hck⟩ : ∃ c, mayW v s = c := ⟨_, rfl⟩
  rw [hck] at HWO HRB ⊢
  clear hck
  by_cases hc0 : ck = 0
  case neg =>
    have g0 : (ck == 0) = false := by simpa using hc0
    have g1 : (ck != 0) = true := by simpa using hc0
    have HF : Hid (restB v s = false) := by show _ = _; rw [HRB.out]; simp [hc0]
    clear hc0
    go_wp2_with fail
    go_ret
    exact ⟨ret_bool HF.out.symm, HW2.out⟩
  subst hc0
  obtain ⟨x0, x1, x2, x3, x4, x5, x6⟩ := HX2.out.cells
  go_wp2_with fail
  clear x0 x1 x2 x3 x4 x5 x6
  refine Calls.mono (HWO.out trivial _ HW2.out) ?_
  rintro _ w3 ⟨rfl, hb⟩
  have HW3 : Hid (Below w.heap.size w w3) := HW2.out.trans (hb.mono HW2.out.size)
  have HF : Hid (restB v s = decide ((worstTo v s 5).2 < 100)) := by show _ = _; rw [HRB.out]; simp
  clear hb HX2 HW2 HWO
  go_wp2_with fail
  go_ret
  exact ⟨ret_bool HF.out.symm, HW3.out⟩

/-- A level's score, of any version and setup. -/
noncomputable def scoreB (v : Ver) (s : Stp) (lev : Int) : Int := if mayW v s = 0 ∧ 0 ≤ lev ∧ lev < 5 then scoreW v s lev.toNat else 0
set_option maxRecDepth 100000 in
set_option maxHeartbeats 4000000 in
theorem pscore_any (F : Nat → Prop) (v : Ver) (s : Stp) (lv : Value) (lev : Int) (w : World) (h : Rw (rowK filK) F w lv v.levels) (hw : v.wf) (hfew : cntTo v.levels v.levels.length ≤ 1000000) :
    Calls Try.prog 19 #[.agg (verCells v lv).toArray, .agg (stpCells s).toArray, .int .i64 lev] w fun e w' => e = .returned (.int .i64 (scoreB v s lev)) ∧ Below w.heap.size w w' := by
  have HMA := Lib.hid (fun w' (hb : Below w.heap.size w w') => may_any F v s lv w' (h.below hb) hw hfew)
  have HSC := Lib.hid (fun (h0 : mayW v s = 0) i (hi : i < 5) w' (hb : Below w.heap.size w w') => score_any F v s lv i w' (h.below hb) hw (mayW_ok h0).1 (mayW_ok h0).2 hi)
  have HRB : Hid (scoreB v s lev = if mayW v s = 0 ∧ 0 ≤ lev ∧ lev < 5 then scoreW v s lev.toNat else 0) := rfl
  have HM5 : Hid (mayW v s = 0 → v.levels.length = 5) := fun h0 => (good_small (mayW_ok h0).1).1
  obtain ⟨xa, ca, rfl⟩ := h.isSlice
  clear h hw hfew
  generalize v.levels.length = m at *
  unfold verCells at HMA HSC ⊢
  unfold stpCells at HMA HSC ⊢
  go_enter Try.func19, Try.ntmps19
  go_upto_region 1 with fail
  refine wp_gen fun w1 hw1 => ?_
  have HX1 : Hid (Boxed w1 w.heap.size (w.heap.size + 1) v (.slice xa m ca) s) := by rw [hw1]; exact boxed_two _ _ _ _
  have HW1 : Hid (Below w.heap.size w w1) := by rw [hw1]; exact below_two _ _ _
  clear hw1
  obtain ⟨b1, hb1⟩ : ∃ b, w.heap.size = b := ⟨_, rfl⟩
  obtain ⟨b2, hb2⟩ : ∃ b, w.heap.size + 1 = b := ⟨_, rfl⟩
  rw [hb2, hb1] at HX1 ⊢
  clear hb1 hb2
  obtain ⟨x0, x1, x2, x3, x4, x5, x6⟩ := HX1.out.cells
  go_wp2_with fail
  clear x0 x1 x2 x3 x4 x5 x6
  refine Calls.mono (HMA.out _ HW1.out) ?_
  rintro _ w2 ⟨rfl, hb⟩
  have HX2 := Lib.hid (HX1.out.below hb)
  have HW2 : Hid (Below w.heap.size w w2) := HW1.out.trans (hb.mono HW1.out.size)
  clear hb HX1 HW1 HMA
  obtain ⟨ck, hck⟩ : ∃ c, mayW v s = c := ⟨_, rfl⟩
  rw [hck] at HSC HRB HM5 ⊢
  clear hck
  by_cases hc0 : ck = 0
  case neg =>
    have g0 : (ck == 0) = false := by simpa using hc0
    have g1 : (ck != 0) = true := by simpa using hc0
    have HF : Hid (scoreB v s lev = 0) := by show _ = _; rw [HRB.out, if_neg fun e => hc0 e.1]
    clear hc0
    go_wp2_with fail
    go_ret
    exact ⟨ret_int HF.out.symm, HW2.out⟩
  subst hc0
  obtain rfl : m = 5 := HM5.out rfl
  by_cases hl0 : 0 ≤ lev
  case neg =>
    have g0 : lev < 0 := by omega
    have HF : Hid (scoreB v s lev = 0) := by show _ = _; rw [HRB.out, if_neg fun e => hl0 e.2.1]
    clear hl0
    go_wp2_with fail
    go_ret
    exact ⟨ret_int HF.out.symm, HW2.out⟩
  obtain ⟨x0, x1, x2, x3, x4, x5, x6⟩ := HX2.out.cells
  by_cases hl1 : lev < 5
  case neg =>
    have g0 : 5 ≤ lev := by omega
    have HF : Hid (scoreB v s lev = 0) := by show _ = _; rw [HRB.out, if_neg fun e => hl1 e.2.2]
    clear hl1
    go_wp2_with fail
    go_ret
    exact ⟨ret_int HF.out.symm, HW2.out⟩
  obtain ⟨i, rfl⟩ : ∃ i : Nat, lev = (i : Int) := ⟨lev.toNat, by omega⟩
  have HF : Hid (scoreB v s (i : Int) = scoreW v s i) := by show _ = _; rw [HRB.out, if_pos ⟨rfl, hl0, hl1⟩, Int.toNat_natCast]
  have HSI := Lib.hid (HSC.out rfl i (by omega))
  clear HSC hl0
  go_wp2_with fail
  clear x0 x1 x2 x3 x4 x5 x6
  refine Calls.mono (HSI.out _ HW2.out) ?_
  rintro _ w3 ⟨rfl, hb⟩
  have HW3 : Hid (Below w.heap.size w w3) := HW2.out.trans (hb.mono HW2.out.size)
  clear hb HX2 HW2 HSI
  go_wp2_with fail
  go_ret
  exact ⟨ret_int HF.out.symm, HW3.out⟩
end Go.Proofs.Ytkcohhldmhdcfaa

namespace Go.Proofs.Ytkcohhldmhdcfaa
open Go.RowKit

/-- The least and the greatest key of the first k files. -/
def leastTo (l : List Fil) : Nat → List UInt8
  | 0 => []
  | k + 1 => if k = 0 ∨ Ent.bcmp (fat l k).least (leastTo l k) < 0 then (fat l k).least else leastTo l k
def mostTo (l : List Fil) : Nat → List UInt8
  | 0 => []
  | k + 1 => if k = 0 ∨ 0 < Ent.bcmp (fat l k).most (mostTo l k) then (fat l k).most else mostTo l k
def leastOf (l : List Fil) : List UInt8 := leastTo l l.length
def mostOf (l : List Fil) : List UInt8 := mostTo l l.length

set_option maxRecDepth 100000 in
set_option maxHeartbeats 4000000 in
theorem bounds_any (F : Nat → Prop) (v : Value) (l : List Fil) (w : World) (h : Rw filK F w v l) (hfew : l.length ≤ 1000000) :
    Calls Try.prog 59 #[v] w fun e w' => ∃ r1 r2, e = .returned (.tuple #[r1, r2]) ∧ Bytes F w' r1 (leastOf l) ∧ Bytes F w' r2 (mostOf l) ∧ Below w.heap.size w w' := by
  obtain ⟨ra, rc, rfl⟩ := h.isSlice
  have HROW := Lib.hid h
  obtain ⟨n, hn⟩ : ∃ n, l.length = n := ⟨_, rfl⟩
  have HLN := Lib.hid hn
  rw [hn] at HROW hfew ⊢
  clear h hn
  go_enter Try.func59, Try.ntmps59
  go_wp2_with fail
  go_loopw [2, 3, 8] (fun lv mv kv wr => ∃ (k : Nat) (a1 a2 : Option Addr) (n1 n2 c1 c2 : Nat), lv = .slice a1 n1 c1 ∧ mv = .slice a2 n2 c2 ∧ kv = .int .i64 (k : Int) ∧ k ≤ n ∧ Hid (Bytes F wr (.slice a1 n1 c1) (leastTo l k)) ∧ Hid (Bytes F wr (.slice a2 n2 c2) (mostTo l k)) ∧ Hid (Below w.heap.size w wr)) (fun _ _ kv _ => n - (intOf kv).toNat)
  case atStart => exact ⟨0, none, none, 0, 0, 0, 0, rfl, rfl, rfl, by omega, Bytes.nil _ _, Bytes.nil _ _, Below.refl _ _⟩
  case round =>
    obtain ⟨k, a1, a2, n1, n2, c1, c2, rfl, rfl, rfl, hk, HL, HM, HB⟩ := hrel
    by_cases hkn : k < n
    · have t6 : (k : Int) < (n : Int) := by omega
      have t7 : 0 ≤ (k : Int) := by omega
      have hkl : k < l.length := by rw [HLN.out]; exact hkn
      obtain ⟨bf, of, capf, ef, _, hbf, hcf⟩ := fils_at HROW.out (by omega)
      obtain ⟨vl, vm, hvl, hvm, hwf, hc6⟩ := hcf k hkl
      injection ef with e1 e2 e3
      subst e1 e3
      clear e2 hcf
      have HLS : Hid (leastTo l (k + 1) = if k = 0 ∨ Ent.bcmp (fat l k).least (leastTo l k) < 0 then (fat l k).least else leastTo l k) := rfl
      have HMS : Hid (mostTo l (k + 1) = if k = 0 ∨ 0 < Ent.bcmp (fat l k).most (mostTo l k) then (fat l k).most else mostTo l k) := rfl
      obtain ⟨f, hf⟩ : ∃ f, fat l k = f := ⟨_, rfl⟩
      rw [hf] at hvl hvm hwf hc6 HLS HMS
      obtain ⟨ls, hls⟩ : ∃ f, leastTo l k = f := ⟨_, rfl⟩
      obtain ⟨ms, hms⟩ : ∃ f, mostTo l k = f := ⟨_, rfl⟩
      rw [hls] at HL HLS
      rw [hms] at HM HMS
      obtain ⟨fa, fc, rfl⟩ := hvl.isSlice
      obtain ⟨ga2, gc2, rfl⟩ := hvm.isSlice
      obtain ⟨c0, c1, c2, c3, c4, c5⟩ := hc6.keep HB.out hbf
      have HVL := Lib.hid (hvl.below HB.out)
      have HVM := Lib.hid (hvm.below HB.out)
      clear hvl hvm hwf hf hc6 hkl hls hms
      go_upto_region 4 with fail
      clear c0 c1 c2 c3 c4 c5
      refine wp_gen fun w4 hw4 => ?_
      have HE4 : Hid (Blk w4 wr.heap.size (filCells f (.slice fa f.least.length fc) (.slice ga2 f.most.length gc2)).toArray 42) := by rw [hw4]; exact Blk.at_new rfl rfl
      have HW4 : Hid (Below wr.heap.size wr w4) := by rw [hw4]; exact (Below.refl _ _).alloc (Nat.le_refl _) _
      clear hw4
      have HL4 := Lib.hid (HL.out.below HW4.out)
      have HM4 := Lib.hid (HM.out.below HW4.out)
      have HVL4 := Lib.hid (HVL.out.below HW4.out)
      have HVM4 := Lib.hid (HVM.out.below HW4.out)
      have HB4 : Hid (Below w.heap.size w w4) := HB.out.trans (HW4.out.mono HB.out.size)
      obtain ⟨c0, c1, c2, c3, c4, c5⟩ := C6.blk HE4.out
      clear HE4 HW4 HL HM HVL HVM HB
      generalize wr.heap.size = fb at *
      by_cases hk0 : k = 0
      · subst hk0
        have HR1 : Hid (leastTo l 1 = f.least) := by show _ = _; rw [HLS.out, if_pos (.inl rfl)]
        have HR2 : Hid (mostTo l 1 = f.most) := by show _ = _; rw [HMS.out, if_pos (.inl rfl)]
        go_wp2_with fail
        clear c0 c1 c2 c3 c4 c5
        go_roundw
        · exact ⟨1, _, _, _, _, _, _, rfl, rfl, by go_num, by omega, by rw [HR1.out]; exact HVL4.out, by rw [HR2.out]; exact HVM4.out, HB4.out⟩
        · simp only [intOf]; omega
      · have g0 : ((k : Int) == 0) = false := by simp; omega
        go_wp2_with fail
        refine Calls.mono (bytesCompare_any _ _ _ _ f.least ls w4 HVL4.out HL4.out) ?_
        rintro _ _ ⟨rfl, rfl⟩
        have HKL : Hid ((k : Nat) = 0 → False) := hk0
        by_cases hlt : Ent.bcmp f.least ls < 0
        · have HR1 : Hid (leastTo l (k + 1) = f.least) := by show _ = _; rw [HLS.out, if_pos (.inr hlt)]
          go_wp2_with fail
          refine Calls.mono (bytesCompare_any _ _ _ _ f.most ms _ HVM4.out HM4.out) ?_
          rintro _ _ ⟨rfl, rfl⟩
          by_cases hgt : 0 < Ent.bcmp f.most ms
          · have HR2 : Hid (mostTo l (k + 1) = f.most) := by show _ = _; rw [HMS.out, if_pos (.inr hgt)]
            go_wp2_with fail
            clear c0 c1 c2 c3 c4 c5
            go_roundw
            · exact ⟨k + 1, _, _, _, _, _, _, rfl, rfl, by go_num, by omega, by rw [HR1.out]; exact HVL4.out, by rw [HR2.out]; exact HVM4.out, HB4.out⟩
            · simp only [intOf]; omega
          · have HR2 : Hid (mostTo l (k + 1) = ms) := by show _ = _; rw [HMS.out, if_neg fun e => e.elim HKL.out hgt]
            go_wp2_with fail
            clear c0 c1 c2 c3 c4 c5
            go_roundw
            · exact ⟨k + 1, _, _, _, _, _, _, rfl, rfl, by go_num, by omega, by rw [HR1.out]; exact HVL4.out, by rw [HR2.out]; exact HM4.out, HB4.out⟩
            · simp only [intOf]; omega
        · have HR1 : Hid (leastTo l (k + 1) = ls) := by show _ = _; rw [HLS.out, if_neg fun e => e.elim HKL.out hlt]
          go_wp2_with fail
          refine Calls.mono (bytesCompare_any _ _ _ _ f.most ms _ HVM4.out HM4.out) ?_
          rintro _ _ ⟨rfl, rfl⟩
          by_cases hgt : 0 < Ent.bcmp f.most ms
          · have HR2 : Hid (mostTo l (k + 1) = f.most) := by show _ = _; rw [HMS.out, if_pos (.inr hgt)]
            go_wp2_with fail
            clear c0 c1 c2 c3 c4 c5
            go_roundw
            · exact ⟨k + 1, _, _, _, _, _, _, rfl, rfl, by go_num, by omega, by rw [HR1.out]; exact HL4.out, by rw [HR2.out]; exact HVM4.out, HB4.out⟩
            · simp only [intOf]; omega
          · have HR2 : Hid (mostTo l (k + 1) = ms) := by show _ = _; rw [HMS.out, if_neg fun e => e.elim HKL.out hgt]
            go_wp2_with fail
            clear c0 c1 c2 c3 c4 c5
            go_roundw
            · exact ⟨k + 1, _, _, _, _, _, _, rfl, rfl, by go_num, by omega, by rw [HR1.out]; exact HL4.out, by rw [HR2.out]; exact HM4.out, HB4.out⟩
            · simp only [intOf]; omega
    · have t6 : ¬ (k : Int) < (n : Int) := by omega
      have hkn' : k = n := by omega
      subst hkn'
      have HP : Hid (leastOf l = leastTo l k ∧ mostOf l = mostTo l k) := by unfold leastOf mostOf; rw [HLN.out]; exact ⟨rfl, rfl⟩
      go_wp2_with fail
      go_ret2
      exact ⟨_, _, rfl, by rw [HP.out.1]; exact HL.out, by rw [HP.out.2]; exact HM.out, HB.out⟩
end Go.Proofs.Ytkcohhldmhdcfaa

namespace Go.Proofs.Ytkcohhldmhdcfaa
open Go.RowKit

theorem leastTo_le (l : List Fil) : ∀ k i, i < k → Ent.bcmp (leastTo l k) (fat l i).least ≤ 0
  | 0, _, h => by omega
  | k + 1, i, h => by
    have hs : Ent.bcmp (fat l k).least (fat l k).least ≤ 0 := by rw [bcmp_self]; decide
    rw [leastTo]
    by_cases hc : k = 0 ∨ Ent.bcmp (fat l k).least (leastTo l k) < 0
    · rw [if_pos hc]
      by_cases hi : i = k
      · subst hi; exact hs
      · rcases hc with hc | hc
        · omega
        · exact isCmp_bcmp.tr _ _ _ (by omega) (leastTo_le l k i (by omega))
    · rw [if_neg hc]
      by_cases hi : i = k
      · subst hi
        have h1 : ¬ Ent.bcmp (fat l i).least (leastTo l i) < 0 := fun e => hc (.inr e)
        rw [isCmp_bcmp.anti (fat l i).least (leastTo l i)]
        omega
      · exact leastTo_le l k i (by omega)
theorem mostTo_ge (l : List Fil) : ∀ k i, i < k → Ent.bcmp (fat l i).most (mostTo l k) ≤ 0
  | 0, _, h => by omega
  | k + 1, i, h => by
    have hs : Ent.bcmp (fat l k).most (fat l k).most ≤ 0 := by rw [bcmp_self]; decide
    rw [mostTo]
    by_cases hc : k = 0 ∨ 0 < Ent.bcmp (fat l k).most (mostTo l k)
    · rw [if_pos hc]
      by_cases hi : i = k
      · subst hi; exact hs
      · rcases hc with hc | hc
        · omega
        · exact isCmp_bcmp.tr _ _ _ (mostTo_ge l k i (by omega)) (by rw [isCmp_bcmp.anti (fat l k).most (mostTo l k)]; omega)
    · rw [if_neg hc]
      by_cases hi : i = k
      · subst hi
        have h1 : ¬ 0 < Ent.bcmp (fat l i).most (mostTo l i) := fun e => hc (.inr e)
        omega
      · exact mostTo_ge l k i (by omega)
theorem mem_fat {l : List Fil} {f : Fil} (h : f ∈ l) : ∃ i, i < l.length ∧ fat l i = f := by
  obtain ⟨i, hi, e⟩ := List.getElem_of_mem h
  exact ⟨i, hi, by rw [← fat_eq hi]; exact e⟩
/-- Each file overlaps the keys from the least to the greatest. -/
theorem lap_own {l : List Fil} {f : Fil} (h : f ∈ l) (hf : f.Fine) : lapB (leastOf l) (mostOf l) f = true := by
  obtain ⟨i, hi, rfl⟩ := mem_fat h
  have h1 := leastTo_le l l.length i hi
  have h2 := mostTo_ge l l.length i hi
  have h3 := hf.order
  have h4 := isCmp_bcmp.tr _ _ _ h1 h3
  have h5 := isCmp_bcmp.tr _ _ _ h3 h2
  unfold lapB leastOf mostOf
  rw [isCmp_bcmp.anti (leastTo l l.length) (fat l i).most]
  simp only [decide_eq_true h5, Bool.or_true, Bool.and_true, decide_eq_true_eq]
  omega
/-- The files of a level that overlap some. -/
def tops (L out : List Fil) : List Fil := L.filter (lapB (leastOf out) (mostOf out))
def gath (L : List Fil) : Nat → List Fil → List Fil
  | 0, out => out
  | n + 1, out => if (tops L out).length = out.length then out else gath L n (tops L out)
def gathL (L : List Fil) : List Fil := gath L L.length (L.take 1)
structure GI (L out : List Fil) : Prop where
  sub : out.Sublist L
  pos : 0 < out.length
theorem GI.tops {L out : List Fil} (h : GI L out) (hf : ∀ f ∈ L, f.Fine) : out.Sublist (tops L out) := by
  have h1 : out.filter (lapB (leastOf out) (mostOf out)) = out := List.filter_eq_self.2 fun f hm => lap_own hm (hf f (h.sub.subset hm))
  have h2 := h.sub.filter (lapB (leastOf out) (mostOf out))
  rw [h1] at h2
  exact h2
theorem GI.next {L out : List Fil} (h : GI L out) (hf : ∀ f ∈ L, f.Fine) : GI L (Go.Proofs.Ytkcohhldmhdcfaa.tops L out) := ⟨List.filter_sublist, Nat.lt_of_lt_of_le h.pos (h.tops hf).length_le⟩
theorem GI.same {L out : List Fil} (h : GI L out) (hf : ∀ f ∈ L, f.Fine) (he : (Go.Proofs.Ytkcohhldmhdcfaa.tops L out).length = out.length) : Go.Proofs.Ytkcohhldmhdcfaa.tops L out = out := ((h.tops hf).eq_of_length he.symm).symm
/-- What a round of the loop knows. -/
structure GR (L out : List Fil) : Prop where
  gi : GI L out
  fuel : ∃ n, gath L n out = gathL L ∧ L.length ≤ out.length + n
theorem GR.start {L : List Fil} (h : 0 < L.length) : GR L (L.take 1) := ⟨⟨List.take_sublist _ _, by rw [List.length_take]; omega⟩, L.length, rfl, by omega⟩
theorem GR.done {L out : List Fil} (h : GR L out) (he : (tops L out).length = out.length) : out = gathL L := by
  obtain ⟨n, e, _⟩ := h.fuel
  rw [← e]
  cases n with
  | zero => rfl
  | succ n => rw [gath, if_pos he]
theorem GR.more {L out : List Fil} (h : GR L out) (hf : ∀ f ∈ L, f.Fine) (he : ¬ (tops L out).length = out.length) : GR L (tops L out) ∧ out.length < (tops L out).length ∧ (tops L out).length ≤ L.length := by
  obtain ⟨n, e, hl⟩ := h.fuel
  have h1 := (h.gi.tops hf).length_le
  have h2 : (tops L out).length ≤ L.length := List.length_filter_le _ _
  refine ⟨⟨h.gi.next hf, ?_⟩, by omega, h2⟩
  cases n with
  | zero => omega
  | succ n => exact ⟨n, by rw [← e, gath, if_neg he], by omega⟩
theorem lapB_none (f : Fil) : lapB [] [] f = true := by
  unfold lapB
  have : Ent.bcmp f.most [] = 0 ∨ Ent.bcmp f.most [] = 1 := by
    unfold Ent.bcmp
    have : Op.bytesLess f.most [] = false := by cases f.most <;> rfl
    rw [this]
    simp only [Bool.false_eq_true, if_false]
    split
    · exact .inr rfl
    · exact .inl rfl
  rcases this with h | h <;> rw [h] <;> rfl
theorem filter_all (L : List Fil) : L.filter (lapB [] []) = L := List.filter_eq_self.2 fun f _ => lapB_none f
def lenOfV : Value → Nat
  | .slice _ n _ => n
  | _ => 0

set_option maxRecDepth 100000 in
set_option maxHeartbeats 4000000 in
theorem gathered_any (F : Nat → Prop) (v : Ver) (lv : Value) (w : World) (h : Rw (rowK filK) F w lv v.levels) (hw : v.wf) (hck : chkW v = 0) (hne : 0 < (lat v.levels 0).length) :
    Calls Try.prog 55 #[.agg (verCells v lv).toArray] w fun e w' => ∃ r, e = .returned r ∧ Rw filK (fun k => w.heap.size ≤ k) w' r (gathL (lat v.levels 0)) ∧ Below w.heap.size w w' := by
  have h5 := (good_small hck).1
  have hcn := (chkW_good hck).2.2
  have HFI : Hid (∀ f ∈ lat v.levels 0, f.Fine) := (chkW_good hck).2.1.fine 0 (by omega)
  have HOV : Hid (∀ ls ms, overB v 0 ls ms = (lat v.levels 0).filter (lapB ls ms)) := fun ls ms => by unfold overB; rw [if_pos ⟨hck, by omega, by omega⟩]; rfl
  have HLL : Hid ((lat v.levels 0).length ≤ 10000) := Nat.le_trans (lev_le_cnt (by omega)) hcn
  have HCO := Lib.hid (fun w' (hb : Below w.heap.size w w') (ls ms : List UInt8) (q1 q2 : Value) (L M : Nat → Prop) (g1 : Bytes L w' q1 ls) (g2 : Bytes M w' q2 ms) => overlap_any F L M v lv 0 ls ms q1 q2 w' (h.below hb) hw (by omega) ⟨by decide, by decide⟩ g1 g2)
  obtain ⟨xa, ca, rfl⟩ := h.isSlice
  rw [h5] at HCO ⊢
  have HNE := Lib.hid hne
  clear h hw hck h5 hcn hne
  obtain ⟨L, hL⟩ : ∃ l, lat v.levels 0 = l := ⟨_, rfl⟩
  rw [hL] at HFI HOV HLL HNE ⊢
  clear hL
  unfold verCells at HCO ⊢
  go_enter Try.func55, Try.ntmps55
  go_upto_region 1 with fail
  refine wp_gen fun w1 hw1 => ?_
  have HX1 : Hid (Blk w1 w.heap.size (verCells v (.slice xa 5 ca)).toArray 25) := by rw [hw1]; exact Blk.at_new rfl rfl
  have HW1 : Hid (Below w.heap.size w w1) := by rw [hw1]; exact (Below.refl _ _).alloc (Nat.le_refl _) _
  clear hw1
  obtain ⟨xb, hxb⟩ : ∃ b, w.heap.size = b := ⟨_, rfl⟩
  rw [hxb] at HX1 ⊢
  clear hxb
  have x0 : w1.cell? ⟨xb, 0, none⟩ = some (.slice xa 5 ca) := HX1.out.cell rfl
  have x1 : w1.cell? ⟨xb, 1, none⟩ = some (.int .u64 v.next) := HX1.out.cell rfl
  have x2 : w1.cell? ⟨xb, 2, none⟩ = some (.int .u64 v.seq) := HX1.out.cell rfl
  have x3 : w1.cell? ⟨xb, 3, none⟩ = some (.int .u64 v.log) := HX1.out.cell rfl
  refine wp_scope_straight ?_
  go_wp2_with fail
  clear x0 x1 x2 x3
  refine Calls.mono (HCO.out _ HW1.out [] [] _ _ Any Any (Bytes.nil _ _) (Bytes.nil _ _)) ?_
  rintro _ w2 ⟨r0, rfl, hr, hb⟩
  rw [HOV.out, filter_all] at hr
  obtain ⟨v1, hv1, hr1⟩ := hr.slice_h (P := Try.prog) (t := 33) (by kernel_rfl) (by kernel_rfl) 1 HNE.out
  have hv1 : ∀ w', (Instr.slice 33 r0 none (some (.int .i64 1)) none).run Try.prog w' = .ok v1 w' := hv1
  obtain ⟨ra, rc, rfl⟩ := hr1.isSlice
  have HR2 : Hid (Rw filK (fun k => w.heap.size ≤ k) w2 (.slice ra (L.take 1).length rc) (L.take 1)) := hr1.mono fun k _ hk => Nat.le_trans HW1.out.size hk
  have HW2 : Hid (Below w1.heap.size w1 w2) := hb
  obtain ⟨q0, c0, rfl⟩ := hr.isSlice
  have hl1 : (L.take 1).length = 1 := by rw [List.length_take]; have := HNE.out; omega
  rw [hl1] at hv1 HR2
  clear hr hr1 hb
  go_wp2_with fail
  clear hv1
  refine wp_label ?_
  go_wp2_with fail
  go_loopw [3] (fun ov wr => ∃ (out : List Fil) (a : Option Addr) (c : Nat), ov = .slice a out.length c ∧ Hid (GR L out) ∧ Hid (Rw filK (fun k => w.heap.size ≤ k) wr (.slice a out.length c) out) ∧ Hid (Below w1.heap.size w1 wr)) (fun ov _ => L.length - lenOfV ov)
  case atStart => exact ⟨L.take 1, ra, rc, by rw [hl1], GR.start HNE.out, by rw [hl1]; exact HR2.out, HW2.out⟩
  case round =>
    obtain ⟨out, a, c, rfl, HG, HO, HB⟩ := hrel
    clear HR2 HW2 hl1
    have HTO : Hid (tops L out = L.filter (lapB (leastOf out) (mostOf out))) := rfl
    have hol : out.length ≤ 10000 := Nat.le_trans HG.out.gi.sub.length_le HLL.out
    obtain ⟨n, hn⟩ : ∃ n, out.length = n := ⟨_, rfl⟩
    have HON := Lib.hid hn
    rw [hn] at HO hol ⊢
    clear hn
    go_wp2_with fail
    refine Calls.mono (bounds_any _ (.slice a n c) out wr HO.out (by rw [HON.out]; omega)) ?_
    rintro _ w3 ⟨r1, r2, rfl, hb1, hb2, hb⟩
    obtain ⟨a1, c1, rfl⟩ := hb1.isSlice
    obtain ⟨a2, c2, rfl⟩ := hb2.isSlice
    have HB3 : Hid (Below w1.heap.size w1 w3) := HB.out.trans (hb.mono HB.out.size)
    have HO3 := Lib.hid (HO.out.below hb)
    have HL3 := Lib.hid hb1
    have HM3 := Lib.hid hb2
    obtain ⟨ls, hls⟩ : ∃ x, leastOf out = x := ⟨_, rfl⟩
    obtain ⟨ms, hms⟩ : ∃ x, mostOf out = x := ⟨_, rfl⟩
    rw [hls] at HL3 HTO ⊢
    rw [hms] at HM3 HTO ⊢
    clear hb hb1 hb2 HO HB hls hms
    have HX3 := Lib.hid (HX1.out.below HB3.out HX1.out.lt)
    have x0 : w3.cell? ⟨xb, 0, none⟩ = some (.slice xa 5 ca) := HX3.out.cell rfl
    have x1 : w3.cell? ⟨xb, 1, none⟩ = some (.int .u64 v.next) := HX3.out.cell rfl
    have x2 : w3.cell? ⟨xb, 2, none⟩ = some (.int .u64 v.seq) := HX3.out.cell rfl
    have x3 : w3.cell? ⟨xb, 3, none⟩ = some (.int .u64 v.log) := HX3.out.cell rfl
    go_wp2_with fail
    clear x0 x1 x2 x3
    refine Calls.mono (HCO.out _ (HW1.out.trans (HB3.out.mono HW1.out.size)) ls ms _ _ _ _ HL3.out HM3.out) ?_
    rintro _ w4 ⟨r4, rfl, hr4, hb⟩
    rw [HOV.out, ← HTO.out] at hr4
    obtain ⟨a4, c4, rfl⟩ := hr4.isSlice
    have HB4 : Hid (Below w1.heap.size w1 w4) := HB3.out.trans (hb.mono HB3.out.size)
    have HO4 := Lib.hid (HO3.out.below hb)
    have HL4 := Lib.hid (HL3.out.below hb)
    have HM4 := Lib.hid (HM3.out.below hb)
    have HR4 := Lib.hid hr4
    obtain ⟨more, hmore⟩ : ∃ x, tops L out = x := ⟨_, rfl⟩
    have HMO := Lib.hid hmore
    rw [hmore] at HR4 HTO ⊢
    obtain ⟨m, hm⟩ : ∃ x, more.length = x := ⟨_, rfl⟩
    have HMN := Lib.hid hm
    rw [hm] at HR4 ⊢
    clear hr4 hb hmore hm HO3 HL3 HM3 HX3 HB3
    go_wp2_with fail
    go_loopw [3, 21] (fun ov kv wr => ∃ (k : Nat), ov = .slice a n c ∧ kv = .int .i64 (k : Int) ∧ k ≤ m ∧ Hid (∀ j, j < k → j < n ∧ (fat out j).num = (fat more j).num) ∧ Hid (Below w4.heap.size w4 wr)) (fun _ kv _ => m - (intOf kv).toNat)
    case atStart => exact ⟨0, rfl, rfl, by omega, fun j hj => absurd hj (by omega), Below.refl _ _⟩
    case round =>
      obtain ⟨k, rfl, rfl, hk, HS, HB5⟩ := hrel
      have HWD : Hid (∀ n, Below w.heap.size w (wr.drewN n)) := fun n => below_dn (HW1.out.trans ((HB4.out.trans (HB5.out.mono HB4.out.size)).mono HW1.out.size)) n
      clear HWD
      by_cases hkm : k < m
      · have t6 : (k : Int) < (m : Int) := by omega
        have t7 : 0 ≤ (k : Int) := by omega
        have hkl : k < more.length := by rw [HMN.out]; exact hkm
        obtain ⟨bf, of, capf, ef, _, hbf, hcf⟩ := fils_at HR4.out (by omega)
        obtain ⟨vl, vm, hvl, hvm, _, hc6⟩ := hcf k hkl
        injection ef with e1 e2 e3
        subst e1 e3
        clear e2 hcf
        obtain ⟨f, hf⟩ : ∃ f, fat more k = f := ⟨_, rfl⟩
        have HF := Lib.hid hf
        rw [hf] at hvl hvm hc6
        obtain ⟨fa, fc, rfl⟩ := hvl.isSlice
        obtain ⟨ga2, gc2, rfl⟩ := hvm.isSlice
        obtain ⟨c0, c1, c2, c3, c4, c5⟩ := hc6.keep HB5.out hbf
        clear hvl hvm hf hc6 hkl
        go_upto_region 6 with fail
        clear c0 c1 c2 c3 c4 c5
        refine wp_gen fun w6 hw6 => ?_
        have HE6 : Hid (Blk w6 wr.heap.size (filCells f (.slice fa f.least.length fc) (.slice ga2 f.most.length gc2)).toArray 42) := by rw [hw6]; exact Blk.at_new rfl rfl
        have HB6 : Hid (Below w4.heap.size w4 w6) := by rw [hw6]; exact HB5.out.alloc HB5.out.size _
        clear hw6
        have c0 : w6.cell? ⟨wr.heap.size, 0, none⟩ = some (.int .u64 f.num) := HE6.out.cell rfl
        clear HE6 HB5
        generalize wr.heap.size = fb at *
        have HWD : Hid (∀ n, Below w.heap.size w (w6.drewN n)) := fun n => below_dn (HW1.out.trans ((HB4.out.trans (HB6.out.mono HB4.out.size)).mono HW1.out.size)) n
        by_cases hkn : k < n
        · have t8 : (k : Int) < (n : Int) := by omega
          have t9 : ¬ (n : Int) ≤ (k : Int) := by omega
          have hko : k < out.length := by rw [HON.out]; exact hkn
          obtain ⟨bo, oo, capo, eo, _, hbo, hco⟩ := fils_at HO4.out (by omega)
          obtain ⟨_, _, _, _, _, ho6⟩ := hco k hko
          injection eo with e1 e2 e3
          subst e1 e3
          clear e2 hco
          obtain ⟨p, hp⟩ : ∃ p, fat out k = p := ⟨_, rfl⟩
          have HP := Lib.hid hp
          rw [hp] at ho6
          obtain ⟨d0, -⟩ := ho6.keep HB6.out hbo
          clear ho6 hp hko
          by_cases heq : p.num = f.num
          · have hs : Hid (∀ j, j < k + 1 → j < n ∧ (fat out j).num = (fat more j).num) := fun j hj => by
              by_cases hjk : j = k
              · subst hjk; exact ⟨hkn, by rw [HP.out, HF.out]; exact heq⟩
              · exact HS.out j (by omega)
            go_wp2_with fail
            go_quiet (fail)
            all_goals
              go_wp2_with fail
              go_roundw
              · exact ⟨k + 1, rfl, by go_num, by omega, hs.out, by first | exact HB6.out | exact below_dn HB6.out _⟩
              · simp only [intOf]; omega
          · have HD : Hid (¬ m = n) := fun e => by
              have h1 := HG.out.gi.same HFI.out (by rw [HMO.out, HMN.out, HON.out]; exact e)
              rw [HMO.out] at h1
              rw [← HP.out, ← HF.out, h1] at heq
              exact heq rfl
            have heq2 : (p.num == f.num) = false := by simpa using heq
            have heq3 : (p.num != f.num) = true := by simpa using heq
            have HGM := Lib.hid (HG.out.more HFI.out (by rw [HMO.out, HMN.out, HON.out]; exact HD.out))
            go_wp2_with fail
            go_quiet (fail)
            all_goals
              have HX7 := Lib.hid (HX1.out.below (HB4.out.trans (HB6.out.mono HB4.out.size)) HX1.out.lt)
              have x0 : w6.cell? ⟨xb, 0, none⟩ = some (.slice xa 5 ca) := HX7.out.cell rfl
              have x1 : w6.cell? ⟨xb, 1, none⟩ = some (.int .u64 v.next) := HX7.out.cell rfl
              have x2 : w6.cell? ⟨xb, 2, none⟩ = some (.int .u64 v.seq) := HX7.out.cell rfl
              have x3 : w6.cell? ⟨xb, 3, none⟩ = some (.int .u64 v.log) := HX7.out.cell rfl
              go_wp2_with fail
              clear x0 x1 x2 x3
              refine Calls.mono (HCO.out _ (by first | exact HWD.out 0 | exact HWD.out _) ls ms _ _ _ _ (HL4.out.below (by first | exact HB6.out | exact below_dn HB6.out _)) (HM4.out.below (by first | exact HB6.out | exact below_dn HB6.out _))) ?_
              rintro _ w8 ⟨r8, rfl, hr8, hb⟩
              rw [HOV.out, ← HTO.out] at hr8
              obtain ⟨a8, c8, rfl⟩ := hr8.isSlice
              have HB8 : Hid (Below w1.heap.size w1 w8) := (HB4.out.trans (show Below w1.heap.size w4 _ from by first | exact HB6.out.mono HB4.out.size | exact below_dn (HB6.out.mono HB4.out.size) _)).trans (hb.mono (Nat.le_trans HB4.out.size HB6.out.size))
              have HR8 : Hid (Rw filK (fun k => w.heap.size ≤ k) w8 (.slice a8 more.length c8) more) := hr8.mono fun j _ hj => Nat.le_trans (Nat.le_trans HW1.out.size (Nat.le_trans HB4.out.size HB6.out.size)) hj
              clear hr8 hb
              go_wp2_with fail
              go_roundw
              · exact ⟨more, a8, c8, rfl, by rw [← HMO.out]; exact HGM.out.1, HR8.out, HB8.out⟩
              · have h1 := HGM.out.2
                rw [HMO.out, HON.out] at h1
                simp only [lenOfV]
                omega
        · have t8 : ¬ (k : Int) < (n : Int) := by omega
          have t9 : (n : Int) ≤ (k : Int) := by omega
          have HD : Hid (¬ m = n) := by show ¬ _; omega
          have HGM := Lib.hid (HG.out.more HFI.out (by rw [HMO.out, HMN.out, HON.out]; exact HD.out))
          go_wp2_with fail
          go_quiet (fail)
          all_goals
            have HX7 := Lib.hid (HX1.out.below (HB4.out.trans (HB6.out.mono HB4.out.size)) HX1.out.lt)
            have x0 : w6.cell? ⟨xb, 0, none⟩ = some (.slice xa 5 ca) := HX7.out.cell rfl
            have x1 : w6.cell? ⟨xb, 1, none⟩ = some (.int .u64 v.next) := HX7.out.cell rfl
            have x2 : w6.cell? ⟨xb, 2, none⟩ = some (.int .u64 v.seq) := HX7.out.cell rfl
            have x3 : w6.cell? ⟨xb, 3, none⟩ = some (.int .u64 v.log) := HX7.out.cell rfl
            go_wp2_with fail
            clear x0 x1 x2 x3
            refine Calls.mono (HCO.out _ (by first | exact HWD.out 0 | exact HWD.out _) ls ms _ _ _ _ (HL4.out.below (by first | exact HB6.out | exact below_dn HB6.out _)) (HM4.out.below (by first | exact HB6.out | exact below_dn HB6.out _))) ?_
            rintro _ w8 ⟨r8, rfl, hr8, hb⟩
            rw [HOV.out, ← HTO.out] at hr8
            obtain ⟨a8, c8, rfl⟩ := hr8.isSlice
            have HB8 : Hid (Below w1.heap.size w1 w8) := (HB4.out.trans (show Below w1.heap.size w4 _ from by first | exact HB6.out.mono HB4.out.size | exact below_dn (HB6.out.mono HB4.out.size) _)).trans (hb.mono (Nat.le_trans HB4.out.size HB6.out.size))
            have HR8 : Hid (Rw filK (fun k => w.heap.size ≤ k) w8 (.slice a8 more.length c8) more) := hr8.mono fun j _ hj => Nat.le_trans (Nat.le_trans HW1.out.size (Nat.le_trans HB4.out.size HB6.out.size)) hj
            clear hr8 hb
            go_wp2_with fail
            go_roundw
            · exact ⟨more, a8, c8, rfl, by rw [← HMO.out]; exact HGM.out.1, HR8.out, HB8.out⟩
            · have h1 := HGM.out.2
              rw [HMO.out, HON.out] at h1
              simp only [lenOfV]
              omega
      · have t6 : ¬ (k : Int) < (m : Int) := by omega
        have hkm' : k = m := by omega
        subst hkm'
        have HQ : Hid (out = gathL L) := HG.out.done (by
          have h1 := (HG.out.gi.tops HFI.out).length_le
          rw [HMO.out, HMN.out, HON.out] at *
          by_cases h0 : k = 0
          · omega
          · have := (HS.out (k - 1) (by omega)).1
            omega)
        have HO5 : Hid (Rw filK (fun k => w.heap.size ≤ k) wr (.slice a n c) (gathL L)) := by show Rw _ _ _ _ _; rw [← HQ.out]; exact HO4.out.below HB5.out
        have HW5 : Hid (Below w.heap.size w wr) := HW1.out.trans ((HB4.out.trans (HB5.out.mono HB4.out.size)).mono HW1.out.size)
        go_wp2_with fail
        go_ret
        exact ⟨_, rfl, HO5.out, HW5.out⟩
end Go.Proofs.Ytkcohhldmhdcfaa
