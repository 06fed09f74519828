/- Chapter 14's document: CheckSetup, Bound, part. Chapter 14's document: ref12.Bytes, Score, Rest. Chapter 14's document: Rest, ends. Chapter 14's document: ends. -/
import Derived.Test.YtkcohhldmhdcfaaPkN
import Derived.Test.YtkcohhldmhdcfaaPkO
namespace Go.Proofs.Ytkcohhldmhdcfaa
open Go.RowKit

set_option maxRecDepth 100000 in
set_option maxHeartbeats 2000000 in
theorem rsetup_any (s : Stp) (w : World) :
    Calls Try.prog 24 #[.agg (stpCells s).toArray] w fun e w' => e = .returned (.int .i64 (stpW s)) ∧ Below w.heap.size w w' := by
  unfold stpCells
  by_cases h0 : 1 ≤ s.trig
  case neg =>
    have g1 : s.trig < 1 := by omega
    have HF : Hid (stpW s = 2) := stpW_no fun e => h0 e.t0
    clear h0
    go_enter Try.func24, Try.ntmps24
    go_wp2_with fail
    go_ret
    exact ⟨ret_int HF.out.symm, (Below.refl _ _).alloc (Nat.le_refl _) _⟩
  by_cases h1 : s.trig ≤ 100
  case neg =>
    have g1 : 100 < s.trig := by omega
    have HF : Hid (stpW s = 2) := stpW_no fun e => h1 e.t1
    clear h1
    go_enter Try.func24, Try.ntmps24
    go_wp2_with fail
    go_ret
    exact ⟨ret_int HF.out.symm, (Below.refl _ _).alloc (Nat.le_refl _) _⟩
  by_cases h2 : 1 ≤ s.base
  case neg =>
    have g1 : s.base < 1 := by omega
    have HF : Hid (stpW s = 2) := stpW_no fun e => h2 e.b0
    clear h2
    go_enter Try.func24, Try.ntmps24
    go_wp2_with fail
    go_ret
    exact ⟨ret_int HF.out.symm, (Below.refl _ _).alloc (Nat.le_refl _) _⟩
  by_cases h3 : s.base ≤ 1073741824
  case neg =>
    have g1 : 1073741824 < s.base := by omega
    have HF : Hid (stpW s = 2) := stpW_no fun e => h3 e.b1
    clear h3
    go_enter Try.func24, Try.ntmps24
    go_wp2_with fail
    go_ret
    exact ⟨ret_int HF.out.symm, (Below.refl _ _).alloc (Nat.le_refl _) _⟩
  by_cases h4 : 2 ≤ s.fac
  case neg =>
    have g1 : s.fac < 2 := by omega
    have HF : Hid (stpW s = 2) := stpW_no fun e => h4 e.f0
    clear h4
    go_enter Try.func24, Try.ntmps24
    go_wp2_with fail
    go_ret
    exact ⟨ret_int HF.out.symm, (Below.refl _ _).alloc (Nat.le_refl _) _⟩
  by_cases h5 : s.fac ≤ 100
  case neg =>
    have g1 : 100 < s.fac := by omega
    have HF : Hid (stpW s = 2) := stpW_no fun e => h5 e.f1
    clear h5
    go_enter Try.func24, Try.ntmps24
    go_wp2_with fail
    go_ret
    exact ⟨ret_int HF.out.symm, (Below.refl _ _).alloc (Nat.le_refl _) _⟩
  have HF : Hid (stpW s = 0) := stpW_yes ⟨h0, h1, h2, h3, h4, h5⟩
  go_enter Try.func24, Try.ntmps24
  go_wp2_with fail
  go_ret
  exact ⟨ret_int HF.out.symm, (Below.refl _ _).alloc (Nat.le_refl _) _⟩

set_option maxRecDepth 100000 in
set_option maxHeartbeats 2000000 in
theorem rbound_any (s : Stp) (lev : Int) (w : World) :
    Calls Try.prog 25 #[.agg (stpCells s).toArray, .int .i64 lev] w fun e w' => e = .returned (.int .i64 (boundW s lev)) ∧ Below w.heap.size w w' := by
  have HCK := Lib.hid (fun w' => rsetup_any s w')
  unfold stpCells at *
  go_enter Try.func25, Try.ntmps25
  go_upto_region 1 with fail
  refine wp_gen fun w1 hw1 => ?_
  have HX1 : Hid (Blk w1 w.heap.size #[.int .i64 s.trig, .int .i64 s.base, .int .i64 s.fac] 27) := by rw [hw1]; exact Blk.at_new rfl rfl
  have HW1 : Hid (Below w.heap.size w w1) := by rw [hw1]; exact (Below.refl _ _).alloc (Nat.le_refl _) _
  clear hw1
  have x0 : w1.cell? ⟨w.heap.size, 0, none⟩ = some (.int .i64 s.trig) := HX1.out.cell rfl
  have x1 : w1.cell? ⟨w.heap.size, 1, none⟩ = some (.int .i64 s.base) := HX1.out.cell rfl
  have x2 : w1.cell? ⟨w.heap.size, 2, none⟩ = some (.int .i64 s.fac) := HX1.out.cell rfl
  go_wp2_with fail
  clear x0 x1 x2
  refine Calls.mono (HCK.out _) ?_
  rintro _ w2 ⟨rfl, hb⟩
  have HX2 : Hid (Blk w2 w.heap.size #[.int .i64 s.trig, .int .i64 s.base, .int .i64 s.fac] 27) := HX1.out.below hb HX1.out.lt
  have HW2 : Hid (Below w.heap.size w w2) := HW1.out.trans (hb.mono HW1.out.size)
  clear hb HX1 HW1
  obtain ⟨ck, hck⟩ : ∃ c, stpW s = c := ⟨_, rfl⟩
  have HK := Lib.hid hck
  rw [hck]
  clear hck
  by_cases hc0 : ck = 0
  case neg =>
    have g0 : (ck == 0) = false := by simpa using hc0
    have g1 : (ck != 0) = true := by simpa using hc0
    have HF : Hid (boundW s lev = 0) := by show _ = _; unfold boundW; rw [if_pos fun e => hc0 (by rw [← HK.out]; exact e)]
    clear hc0
    go_wp2_with fail
    go_ret
    exact ⟨ret_int HF.out.symm, HW2.out⟩
  subst hc0
  by_cases hl0 : 0 ≤ lev
  case neg =>
    have g0 : lev < 0 := by omega
    have HF : Hid (boundW s lev = 0) := by show _ = _; unfold boundW; rw [if_neg (by simp [HK.out]), if_neg (by omega), if_neg (by omega), if_neg (by omega), if_neg (by omega)]
    clear hl0
    go_wp2_with fail
    go_ret
    exact ⟨ret_int HF.out.symm, HW2.out⟩
  by_cases hl1 : lev < 4
  case neg =>
    have g0 : 4 ≤ lev := by omega
    have HF : Hid (boundW s lev = 0) := by show _ = _; unfold boundW; rw [if_neg (by simp [HK.out]), if_neg (by omega), if_neg (by omega), if_neg (by omega), if_neg (by omega)]
    clear hl1
    go_wp2_with fail
    go_ret
    exact ⟨ret_int HF.out.symm, HW2.out⟩
  have x0 : w2.cell? ⟨w.heap.size, 0, none⟩ = some (.int .i64 s.trig) := HX2.out.cell rfl
  have x1 : w2.cell? ⟨w.heap.size, 1, none⟩ = some (.int .i64 s.base) := HX2.out.cell rfl
  have x2 : w2.cell? ⟨w.heap.size, 2, none⟩ = some (.int .i64 s.fac) := HX2.out.cell rfl
  have HFI := Lib.hid (stpW_fine HK.out)
  have e1 : 1 ≤ s.base * s.fac := by have := Int.mul_le_mul HFI.out.b0 (show 1 ≤ s.fac from by have := HFI.out.f0; omega) (by omega) (by have := HFI.out.b0; omega); simpa using this
  have e2 : s.base * s.fac ≤ 107374182400 := by have := Int.mul_le_mul HFI.out.b1 HFI.out.f1 (by have := HFI.out.f0; omega) (by omega); simpa using this
  have e3 : 1 ≤ s.base * s.fac * s.fac := by have := Int.mul_le_mul e1 (show 1 ≤ s.fac from by have := HFI.out.f0; omega) (by omega) (by omega); simpa using this
  have e4 : s.base * s.fac * s.fac ≤ 10737418240000 := by have := Int.mul_le_mul e2 HFI.out.f1 (by have := HFI.out.f0; omega) (by omega); simpa using this
  have hcase : lev = 0 ∨ lev = 1 ∨ lev = 2 ∨ lev = 3 := by omega
  have HB0 : Hid (boundW s 0 = s.trig) := by show _ = _; unfold boundW; rw [if_neg (by simp [HK.out]), if_pos rfl]
  have HB1 : Hid (boundW s 1 = s.base) := by show _ = _; unfold boundW; rw [if_neg (by simp [HK.out]), if_neg (by omega), if_pos rfl]
  have HB2 : Hid (boundW s 2 = s.base * s.fac) := by show _ = _; unfold boundW; rw [if_neg (by simp [HK.out]), if_neg (by omega), if_neg (by omega), if_pos rfl]
  have HB3 : Hid (boundW s 3 = s.base * s.fac * s.fac) := by show _ = _; unfold boundW; rw [if_neg (by simp [HK.out]), if_neg (by omega), if_neg (by omega), if_neg (by omega), if_pos rfl]
  clear hl0 hl1 HFI
  rcases hcase with rfl | rfl | rfl | rfl
  · clear e1 e2 e3 e4
    go_wp2_with fail
    go_ret
    exact ⟨ret_int HB0.out.symm, HW2.out⟩
  · clear e1 e2 e3 e4
    go_wp2_with fail
    refine wp_loop_rounds 1 ?_
    rw [rounds_succ]
    go_wp2_with fail
    go_ret
    exact ⟨ret_int HB1.out.symm, HW2.out⟩
  · obtain ⟨p, hp⟩ : ∃ p, s.base * s.fac = p := ⟨_, rfl⟩
    rw [hp] at e1 e2 HB2
    have y1 : RowKit.wrap64 (s.base * s.fac) = p := by rw [hp]; unfold RowKit.wrap64; omega
    have y2 : p < 1152921504606846976 := by omega
    have y3 : min 1152921504606846976 p = p := by omega
    clear e3 e4 e1 e2 hp HB3
    go_wp2_with fail
    refine wp_loop_rounds 2 ?_
    rw [rounds_succ]
    go_wp2_with fail
    rw [rounds_succ]
    go_wp2_with fail
    go_ret
    exact ⟨ret_int HB2.out.symm, HW2.out⟩
  · obtain ⟨p, hp⟩ : ∃ p, s.base * s.fac = p := ⟨_, rfl⟩
    rw [hp] at e1 e2 e3 e4 HB3
    obtain ⟨q, hq⟩ : ∃ q, p * s.fac = q := ⟨_, rfl⟩
    rw [hq] at e3 e4 HB3
    have y1 : RowKit.wrap64 (s.base * s.fac) = p := by rw [hp]; unfold RowKit.wrap64; omega
    have y2 : p < 1152921504606846976 := by omega
    have y3 : min 1152921504606846976 p = p := by omega
    have z1 : RowKit.wrap64 (p * s.fac) = q := by rw [hq]; unfold RowKit.wrap64; omega
    have z2 : q < 1152921504606846976 := by omega
    have z3 : min 1152921504606846976 q = q := by omega
    clear e3 e4 e1 e2 hp hq HB2
    go_wp2_with fail
    refine wp_loop_rounds 3 ?_
    rw [rounds_succ]
    go_wp2_with fail
    rw [rounds_succ]
    go_wp2_with fail
    rw [rounds_succ]
    go_wp2_with fail
    go_ret
    exact ⟨ret_int HB3.out.symm, HW2.out⟩

theorem part_eq {n b : Int} (hb : 0 < b) : n / b * 100 + n % b * 100 / b = n * 100 / b := by
  have h1 : n * 100 = n % b * 100 + n / b * 100 * b := by
    have := Int.emod_add_mul_ediv n b
    have h2 : b * (n / b) = n / b * b := Int.mul_comm _ _
    have h3 : n / b * 100 * b = n / b * b * 100 := by rw [Int.mul_assoc, Int.mul_comm 100 b, ← Int.mul_assoc]
    rw [h3, ← Int.add_mul, ← h2, this]
  rw [h1, Int.add_mul_ediv_right _ _ (by omega)]
  omega
set_option maxRecDepth 100000 in
theorem rpart_any (n b : Int) (w : World) (h0 : 0 ≤ n) (h1 : n ≤ 1000000000000) (hb : 0 < b) :
    Calls Try.prog 67 #[.int .i64 n, .int .i64 b] w fun e w' => e = .returned (.int .i64 (n * 100 / b)) ∧ Below w.heap.size w w' := by
  have hq0 : 0 ≤ n / b := Int.ediv_nonneg h0 (by omega)
  have hq1 : n / b ≤ n := Int.ediv_le_self b h0
  have hr0 : 0 ≤ n % b := Int.emod_nonneg _ (by omega)
  have hr1 : n % b ≤ n := by
    have := Int.emod_add_mul_ediv n b
    have h5 : 0 ≤ b * (n / b) := Int.mul_nonneg (by omega) hq0
    omega
  have hs0 : 0 ≤ n % b * 100 / b := Int.ediv_nonneg (by omega) (by omega)
  have hs1 : n % b * 100 / b ≤ n % b * 100 := Int.ediv_le_self b (by omega)
  have HR := Lib.hid (part_eq (n := n) hb)
  have e1 : n.tdiv b = n / b := Int.tdiv_eq_ediv_of_nonneg h0
  have e2 : n.tmod b = n % b := Int.tmod_eq_emod_of_nonneg h0
  obtain ⟨q, hq⟩ : ∃ q, n / b = q := ⟨_, rfl⟩
  obtain ⟨r, hr⟩ : ∃ r, n % b = r := ⟨_, rfl⟩
  rw [hr] at hr0 hr1 hs0 hs1 HR e2
  rw [hq] at hq0 hq1 HR e1
  have e3 : (r * 100).tdiv b = r * 100 / b := Int.tdiv_eq_ediv_of_nonneg (by omega)
  obtain ⟨t, ht⟩ : ∃ t, r * 100 / b = t := ⟨_, rfl⟩
  rw [ht] at hs0 hs1 HR e3
  have f1 : IntKind.i64.wrap q = q := wrap_mid (by omega) (by omega)
  have f2 : IntKind.i64.wrap (q * 100) = q * 100 := wrap_mid (by omega) (by omega)
  have f3 : IntKind.i64.wrap r = r := wrap_mid (by omega) (by omega)
  have f4 : IntKind.i64.wrap (r * 100) = r * 100 := wrap_mid (by omega) (by omega)
  have f5 : IntKind.i64.wrap t = t := wrap_mid (by omega) (by omega)
  have f6 : IntKind.i64.wrap (q * 100 + t) = q * 100 + t := wrap_mid (by omega) (by omega)
  have b0 : ¬ b = 0 := by omega
  have b1 : (b == 0) = false := by simpa using b0
  clear hq hr ht
  go_enter Try.func67, Try.ntmps67
  go_upto_region 1 with fail
  refine wp_region_held_drew (S := fun w' => True) (by kernel_rfl) (trivial) (fun hHeld => ?_)
  refine wpAnyH_take (i := 0) (oi := ?oA_1_0) (v := ?vA_1_0) ?eA_1_0 (by kernel_rfl) (by kernel_rfl) (by kernel_rfl) ?qA_1_0 (Or.inl ⟨?wA_1_0, ?yA_1_0⟩) (by assumption) ?rA_1_0
  case eA_1_0 => simp only [List.getElem?_toArray, List.getElem?_cons_zero]; rfl
  case wA_1_0 => rfl
  case qA_1_0 => exact fun _ _ _ h => h
  case yA_1_0 => (intro w hSw; (try dsimp only at hSw); go_simp; try with_reducible rfl)
  try simp only [Act.put, List.setIfInBounds_toArray, List.set_cons_zero, List.set_cons_succ]
  refine wpAnyH_take (i := 1) (oi := ?oA_2_1) (v := ?vA_2_1) ?eA_2_1 (by kernel_rfl) (by kernel_rfl) (by kernel_rfl) ?qA_2_1 (Or.inl ⟨?wA_2_1, ?yA_2_1⟩) (by assumption) ?rA_2_1
  case eA_2_1 => simp only [List.getElem?_toArray, List.getElem?_cons_succ, List.getElem?_cons_zero]; rfl
  case wA_2_1 => rfl
  case qA_2_1 => exact fun _ _ _ h => h
  case yA_2_1 => (intro w hSw; (try dsimp only at hSw); go_simp; try with_reducible rfl)
  try simp only [Act.put, List.setIfInBounds_toArray, List.set_cons_zero, List.set_cons_succ]
  refine wpAnyH_take (i := 2) (oi := ?oA_3_2) (v := ?vA_3_2) ?eA_3_2 (by kernel_rfl) (by kernel_rfl) (by kernel_rfl) ?qA_3_2 (Or.inl ⟨?wA_3_2, ?yA_3_2⟩) (by assumption) ?rA_3_2
  case eA_3_2 => simp only [List.getElem?_toArray, List.getElem?_cons_succ, List.getElem?_cons_zero]; rfl
  case wA_3_2 => rfl
  case qA_3_2 => exact fun _ _ _ h => h
  case yA_3_2 => (intro w hSw; (try dsimp only at hSw); go_simp; try with_reducible rfl)
  try simp only [Act.put, List.setIfInBounds_toArray, List.set_cons_zero, List.set_cons_succ]
  refine wpAnyH_take (i := 3) (oi := ?oA_4_3) (v := ?vA_4_3) ?eA_4_3 (by kernel_rfl) (by kernel_rfl) (by kernel_rfl) ?qA_4_3 (Or.inl ⟨?wA_4_3, ?yA_4_3⟩) (by assumption) ?rA_4_3
  case eA_4_3 => simp only [List.getElem?_toArray, List.getElem?_cons_succ, List.getElem?_cons_zero]; rfl
  case wA_4_3 => rfl
  case qA_4_3 => exact fun _ _ _ h => h
  case yA_4_3 => (intro w hSw; (try dsimp only at hSw); go_simp; try with_reducible rfl)
  try simp only [Act.put, List.setIfInBounds_toArray, List.set_cons_zero, List.set_cons_succ]
  refine wpAnyH_take (i := 4) (oi := ?oA_5_4) (v := ?vA_5_4) ?eA_5_4 (by kernel_rfl) (by kernel_rfl) (by kernel_rfl) ?qA_5_4 (Or.inl ⟨?wA_5_4, ?yA_5_4⟩) (by assumption) ?rA_5_4
  case eA_5_4 => simp only [List.getElem?_toArray, List.getElem?_cons_succ, List.getElem?_cons_zero]; rfl
  case wA_5_4 => rfl
  case qA_5_4 => exact fun _ _ _ h => h
  case yA_5_4 => (intro w hSw; (try dsimp only at hSw); go_simp; try with_reducible rfl)
  try simp only [Act.put, List.setIfInBounds_toArray, List.set_cons_zero, List.set_cons_succ]
  refine wpAnyH_take (i := 5) (oi := ?oA_6_5) (v := ?vA_6_5) ?eA_6_5 (by kernel_rfl) (by kernel_rfl) (by kernel_rfl) ?qA_6_5 (Or.inl ⟨?wA_6_5, ?yA_6_5⟩) (by assumption) ?rA_6_5
  case eA_6_5 => simp only [List.getElem?_toArray, List.getElem?_cons_succ, List.getElem?_cons_zero]; rfl
  case wA_6_5 => rfl
  case qA_6_5 => exact fun _ _ _ h => h
  case yA_6_5 => (intro w hSw; (try dsimp only at hSw); go_simp; try with_reducible rfl)
  try simp only [Act.put, List.setIfInBounds_toArray, List.set_cons_zero, List.set_cons_succ]
  refine wpAnyH_take (i := 6) (oi := ?oA_7_6) (v := ?vA_7_6) ?eA_7_6 (by kernel_rfl) (by kernel_rfl) (by kernel_rfl) ?qA_7_6 (Or.inl ⟨?wA_7_6, ?yA_7_6⟩) (by assumption) ?rA_7_6
  case eA_7_6 => simp only [List.getElem?_toArray, List.getElem?_cons_succ, List.getElem?_cons_zero]; rfl
  case wA_7_6 => rfl
  case qA_7_6 => exact fun _ _ _ h => h
  case yA_7_6 => (intro w hSw; (try dsimp only at hSw); go_simp; try with_reducible rfl)
  try simp only [Act.put, List.setIfInBounds_toArray, List.set_cons_zero, List.set_cons_succ]
  refine wpAnyH_take (i := 7) (oi := ?oA_8_7) (v := ?vA_8_7) ?eA_8_7 (by kernel_rfl) (by kernel_rfl) (by kernel_rfl) ?qA_8_7 (Or.inl ⟨?wA_8_7, ?yA_8_7⟩) (by assumption) ?rA_8_7
  case eA_8_7 => simp only [List.getElem?_toArray, List.getElem?_cons_succ, List.getElem?_cons_zero]; rfl
  case wA_8_7 => rfl
  case qA_8_7 => exact fun _ _ _ h => h
  case yA_8_7 => (intro w hSw; (try dsimp only at hSw); go_simp; try with_reducible rfl)
  try simp only [Act.put, List.setIfInBounds_toArray, List.set_cons_zero, List.set_cons_succ]
  refine wpAnyH_take (i := 8) (oi := ?oA_9_8) (v := ?vA_9_8) ?eA_9_8 (by kernel_rfl) (by kernel_rfl) (by kernel_rfl) ?qA_9_8 (Or.inl ⟨?wA_9_8, ?yA_9_8⟩) (by assumption) ?rA_9_8
  case eA_9_8 => simp only [List.getElem?_toArray, List.getElem?_cons_succ, List.getElem?_cons_zero]; rfl
  case wA_9_8 => rfl
  case qA_9_8 => exact fun _ _ _ h => h
  case yA_9_8 => (intro w hSw; (try dsimp only at hSw); go_simp; try with_reducible rfl)
  try simp only [Act.put, List.setIfInBounds_toArray, List.set_cons_zero, List.set_cons_succ]
  refine wpAnyH_take (i := 9) (oi := ?oA_10_9) (v := ?vA_10_9) ?eA_10_9 (by kernel_rfl) (by kernel_rfl) (by kernel_rfl) ?qA_10_9 (Or.inl ⟨?wA_10_9, ?yA_10_9⟩) (by assumption) ?rA_10_9
  case eA_10_9 => simp only [List.getElem?_toArray, List.getElem?_cons_succ, List.getElem?_cons_zero]; rfl
  case wA_10_9 => rfl
  case qA_10_9 => exact fun _ _ _ h => h
  case yA_10_9 => (intro w hSw; (try dsimp only at hSw); go_simp; try with_reducible rfl)
  try simp only [Act.put, List.setIfInBounds_toArray, List.set_cons_zero, List.set_cons_succ]
  refine wpAnyH_take (i := 10) (oi := ?oA_11_10) (v := ?vA_11_10) ?eA_11_10 (by kernel_rfl) (by kernel_rfl) (by kernel_rfl) ?qA_11_10 (Or.inl ⟨?wA_11_10, ?yA_11_10⟩) (by assumption) ?rA_11_10
  case eA_11_10 => simp only [List.getElem?_toArray, List.getElem?_cons_succ, List.getElem?_cons_zero]; rfl
  case wA_11_10 => rfl
  case qA_11_10 => exact fun _ _ _ h => h
  case yA_11_10 => (intro w hSw; (try dsimp only at hSw); go_simp; try with_reducible rfl)
  try simp only [Act.put, List.setIfInBounds_toArray, List.set_cons_zero, List.set_cons_succ]
  refine wpAnyH_take (i := 11) (oi := ?oA_12_11) (v := ?vA_12_11) ?eA_12_11 (by kernel_rfl) (by kernel_rfl) (by kernel_rfl) ?qA_12_11 (Or.inl ⟨?wA_12_11, ?yA_12_11⟩) (by assumption) ?rA_12_11
  case eA_12_11 => simp only [List.getElem?_toArray, List.getElem?_cons_succ, List.getElem?_cons_zero]; rfl
  case wA_12_11 => rfl
  case qA_12_11 => exact fun _ _ _ h => h
  case yA_12_11 => (intro w hSw; (try dsimp only at hSw); go_simp; try with_reducible rfl)
  try simp only [Act.put, List.setIfInBounds_toArray, List.set_cons_zero, List.set_cons_succ]
  refine wpAnyH_done (by kernel_rfl) ?_ _
  go_wp2_with fail
  go_ret
  exact ⟨ret_int (by rw [← HR.out]), below_drew (Below.refl _ _)⟩
end Go.Proofs.Ytkcohhldmhdcfaa

namespace Go.Proofs.Ytkcohhldmhdcfaa
open Go.RowKit

/-- A file at its place, in any later memory. -/
theorem file_at {F : Nat → Prop} {w : World} {a : Option Addr} {n c : Nat} {l : List Fil} (h : Rw filK F w (.slice a n c) l) (hn : l.length = n) {k : Nat} (hk : k < n) :
    ∃ b o, a = some ⟨b, o, none⟩ ∧ ∃ la lc ma mc, Bytes F w (.slice la (fat l k).least.length lc) (fat l k).least ∧ Bytes F w (.slice ma (fat l k).most.length mc) (fat l k).most ∧ C6 b (o + k * 6) (fat l k) (.slice la (fat l k).least.length lc) (.slice ma (fat l k).most.length mc) w := by
  obtain ⟨b, o, cap, e, _, _, hc⟩ := fils_at h (by omega)
  obtain ⟨vl, vm, h1, h2, _, h6⟩ := hc k (by omega)
  injection e with e1 e2 e3
  obtain ⟨la, lc, rfl⟩ := h1.isSlice
  obtain ⟨ma, mc, rfl⟩ := h2.isSlice
  exact ⟨b, o, e1, la, lc, ma, mc, h1, h2, h6⟩

set_option maxRecDepth 100000 in
set_option maxHeartbeats 4000000 in
theorem rlbytes_any (F : Nat → Prop) (v : Ver) (lv : Value) (lev : Int) (w : World) (h : Rw (rowK filK) F w lv v.levels) (hw : v.wf) (hfew : cntTo v.levels v.levels.length ≤ 100) :
    Calls Try.prog 46 #[.agg (verCells v lv).toArray, .int .i64 lev] w fun e w' => e = .returned (.int .i64 (bytesOfLev v lev)) ∧ Below w.heap.size w w' := by
  obtain ⟨xa, ca, rfl⟩ := h.isSlice
  have HA : Hid (Rw (rowK filK) (· < w.heap.size) w (.slice xa v.levels.length ca) v.levels) := h.mono fun k hk _ => hk
  have HCK := Lib.hid (fun w' (hb : Below w.heap.size w w') => rcheck_any F v _ w' (h.below hb) hw (by omega))
  clear h
  obtain ⟨m, hm1⟩ : ∃ m, v.levels.length = m := ⟨_, rfl⟩
  have HM := Lib.hid hm1
  rw [hm1] at HA HCK
  unfold verCells at *
  rw [hm1]
  clear hm1 hfew
  go_enter Try.func46, Try.ntmps46
  go_upto_region 1 with fail
  refine wp_gen fun w1 hw1 => ?_
  have HX1 : Hid (Blk w1 w.heap.size (verCells v (.slice xa m ca)).toArray 25) := by rw [hw1]; exact Blk.at_new rfl rfl
  have HW1 : Hid (Below w.heap.size w w1) := by rw [hw1]; exact (Below.refl _ _).alloc (Nat.le_refl _) _
  clear hw1
  have x0 : w1.cell? ⟨w.heap.size, 0, none⟩ = some (.slice xa m ca) := HX1.out.cell rfl
  have x1 : w1.cell? ⟨w.heap.size, 1, none⟩ = some (.int .u64 v.next) := HX1.out.cell rfl
  have x2 : w1.cell? ⟨w.heap.size, 2, none⟩ = some (.int .u64 v.seq) := HX1.out.cell rfl
  have x3 : w1.cell? ⟨w.heap.size, 3, none⟩ = some (.int .u64 v.log) := HX1.out.cell rfl
  go_wp2_with fail
  clear x0 x1 x2 x3
  refine Calls.mono (HCK.out _ HW1.out) ?_
  rintro _ w2 ⟨rfl, hb⟩
  have HX2 : Hid (Blk w2 w.heap.size (verCells v (.slice xa m ca)).toArray 25) := HX1.out.below hb HX1.out.lt
  have HW2 : Hid (Below w.heap.size w w2) := HW1.out.trans (hb.mono HW1.out.size)
  clear hb HX1 HW1
  obtain ⟨ck, hck⟩ : ∃ c, chkW v = c := ⟨_, rfl⟩
  have HK := Lib.hid hck
  rw [hck]
  clear hck
  by_cases hc0 : ck = 0
  case neg =>
    have g0 : (ck == 0) = false := by simpa using hc0
    have g1 : (ck != 0) = true := by simpa using hc0
    have HF : Hid (bytesOfLev v lev = 0) := by show _ = _; unfold bytesOfLev; rw [if_neg fun e => hc0 (by rw [← HK.out]; exact e.1)]
    clear hc0
    go_wp2_with fail
    go_ret
    exact ⟨ret_int HF.out.symm, HW2.out⟩
  subst hc0
  by_cases hl0 : 0 ≤ lev
  case neg =>
    have g0 : lev < 0 := by omega
    have HF : Hid (bytesOfLev v lev = 0) := by show _ = _; unfold bytesOfLev; rw [if_neg fun e => hl0 e.2.1]
    clear hl0
    go_wp2_with fail
    go_ret
    exact ⟨ret_int HF.out.symm, HW2.out⟩
  have hm5 : m = 5 := by rw [← HM.out]; exact (good_small HK.out).1
  subst hm5
  by_cases hl1 : lev < 5
  case neg =>
    have g0 : (5 : Int) ≤ lev := by omega
    have HF : Hid (bytesOfLev v lev = 0) := by show _ = _; unfold bytesOfLev; rw [if_neg fun e => hl1 (by have := e.2.2; rw [HM.out] at this; exact this)]
    clear hl1
    go_wp2_with fail
    go_ret
    exact ⟨ret_int HF.out.symm, HW2.out⟩
  obtain ⟨i, rfl⟩ : ∃ i : Nat, lev = (i : Int) := ⟨lev.toNat, by omega⟩
  have hi : i < 5 := by omega
  have t1 : (i : Int) < 5 := by omega
  have t2 : 0 ≤ (i : Int) := by omega
  have hil : i < v.levels.length := by rw [HM.out]; exact hi
  have HFI := Lib.hid ((chkW_good HK.out).2.1.fine i hil)
  have HLL : Hid ((lat v.levels i).length ≤ 10000) := (good_small HK.out).2.1 i hil
  have HF : Hid (bytesOfLev v (i : Int) = bytesTo (lat v.levels i) (lat v.levels i).length) := by
    show _ = _
    unfold bytesOfLev
    rw [if_pos ⟨HK.out, by omega, by rw [HM.out]; omega⟩, Int.toNat_natCast]
  obtain ⟨bl, ol, capl, el, hbl, hbl2, hcl⟩ := levs_at HA.out (by rw [HM.out]; omega)
  obtain ⟨u, hu, hcu⟩ := hcl i hil
  rw [HM.out] at el
  injection el with e1 e2 e3
  subst e1 e3
  obtain ⟨ua, uc, rfl⟩ := hu.isSlice
  have HU := Lib.hid hu
  have HCU := Lib.hid hcu
  clear e2 hcl hu hcu hl0 hl1 hil hi
  obtain ⟨l, hl⟩ : ∃ l, lat v.levels i = l := ⟨_, rfl⟩
  rw [hl] at HFI HLL HF HU HCU
  obtain ⟨n, hn⟩ : ∃ n, l.length = n := ⟨_, rfl⟩
  have HN := Lib.hid hn
  rw [hn] at HLL HF HU HCU
  clear hl hn
  go_wp2_with fail
  go_loopw [5, 6] (fun nv kv wr => ∃ k : Nat, nv = .int .i64 (bytesTo l k) ∧ kv = .int .i64 (k : Int) ∧ k ≤ n ∧ Hid (wr = w2)) (fun _ kv _ => n - (intOf kv).toNat)
  case atStart => exact ⟨0, rfl, rfl, by omega, rfl⟩
  case round =>
    obtain ⟨k, rfl, rfl, hk, HWQ⟩ := hrel
    obtain rfl := HWQ.out
    have x0 : wr.cell? ⟨w.heap.size, 0, none⟩ = some (.slice (some ⟨bl, ol, none⟩) 5 ca) := HX2.out.cell rfl
    have c0 : wr.cell? ⟨bl, ol + i, none⟩ = some (.slice ua n uc) := (HW2.out.cell (p := ⟨bl, ol + i, none⟩) hbl2).trans HCU.out
    by_cases hkn : k < n
    · have u0 : n ≤ 10000 := HLL.out
      have u1 : (k : Int) < (n : Int) := by omega
      have u2 : 0 ≤ (k : Int) := by omega
      have hkl : k < l.length := by rw [HN.out]; exact hkn
      have HBS := Lib.hid (bytesTo_succ hkl)
      have hb1 := bytesTo_le HFI.out k (by omega)
      have hf1 := HFI.out _ (fat_mem hkl)
      obtain ⟨bh, oh, rfl, pa, pc, qa, qc, hp1, hp2, hp6⟩ := file_at (HU.out.below HW2.out) HN.out hkn
      have c1 := hp6.2.1
      have s0 := hf1.s0
      have s1 := hf1.s1
      obtain ⟨z, hz⟩ : ∃ z, (fat l k).size = z := ⟨_, rfl⟩
      rw [hz] at c1 s0 s1 HBS
      obtain ⟨y, hy⟩ : ∃ y, bytesTo l k = y := ⟨_, rfl⟩
      rw [hy] at hb1 HBS ⊢
      have b0 := hb1.1
      have b1 : y ≤ 1000000000000 := by have := hb1.2; omega
      clear hkl hb1 hf1 hp1 hp2 hp6 hz hy
      go_wp2_with fail
      go_roundw
      · exact ⟨k + 1, by rw [HBS.out], by go_num, by omega, Lib.hid trivial⟩
      · simp only [intOf]; omega
    · have u1 : ¬ (k : Int) < (n : Int) := by omega
      obtain rfl : k = n := by omega
      go_wp2_with fail
      go_ret
      exact ⟨ret_int HF.out.symm, HW2.out⟩

theorem bytesOfLev_le {v : Ver} (lev : Int) : 0 ≤ bytesOfLev v lev ∧ bytesOfLev v lev ≤ 1000000000000 := by
  unfold bytesOfLev
  split
  · rename_i h
    have hb := bytesTo_le (l := lat v.levels lev.toNat) ((chkW_good h.1).2.1.fine _ (by omega)) _ (Nat.le_refl _)
    have hl := (good_small h.1).2.1 lev.toNat (by omega)
    exact ⟨hb.1, by omega⟩
  · decide
/-- The document's score. -/
noncomputable def rscoreB (v : Ver) (s : Stp) (lev : Int) : Int := if boundW s lev = 0 ∨ chkW v ≠ 0 then 0 else (if lev = 0 then ((lat v.levels 0).length : Int) else bytesOfLev v lev) * 100 / boundW s lev
theorem boundW_some {s : Stp} {lev : Int} (h : boundW s lev ≠ 0) : stpW s = 0 ∧ 0 ≤ lev ∧ lev < 4 := by
  by_cases hs : stpW s = 0
  · refine ⟨hs, ?_⟩
    by_cases hl : 0 ≤ lev ∧ lev < 4
    · exact hl
    · exfalso
      apply h
      unfold boundW
      rw [if_neg (by simp [hs]), if_neg (by omega), if_neg (by omega), if_neg (by omega), if_neg (by omega)]
  · exfalso
    apply h
    unfold boundW
    exact if_pos hs
theorem rscore_eq {v : Ver} {s : Stp} {lev : Int} : rscoreB v s lev = scoreB v s lev := by
  by_cases hr : boundW s lev = 0 ∨ chkW v ≠ 0
  · have e1 : rscoreB v s lev = 0 := if_pos hr
    rw [e1]
    unfold scoreB
    split
    · rename_i h
      obtain ⟨hc, hs⟩ := mayW_ok h.1
      have hb : boundW s lev = 0 := hr.resolve_right fun e => e hc
      unfold scoreW
      rw [Int.toNat_of_nonneg h.2.1, if_pos hb]
    · rfl
  · have hb : boundW s lev ≠ 0 := fun e => hr (.inl e)
    have hc : chkW v = 0 := by
      by_cases e : chkW v = 0
      · exact e
      · exact absurd (.inr e) hr
    obtain ⟨hs, h0, h4⟩ := boundW_some hb
    have e1 : rscoreB v s lev = (if lev = 0 then ((lat v.levels 0).length : Int) else bytesOfLev v lev) * 100 / boundW s lev := if_neg hr
    have e2 : scoreB v s lev = scoreW v s lev.toNat := if_pos ⟨mayW_of hc hs, h0, by omega⟩
    have e3 : scoreW v s lev.toNat = (if lev.toNat = 0 then ((lat v.levels 0).length : Int) else bytesOfLev v lev) * 100 / boundW s lev := by
      unfold scoreW
      rw [Int.toNat_of_nonneg h0, if_neg hb]
    rw [e1, e2, e3]
    by_cases hz : lev = 0
    · subst hz; rfl
    · rw [if_neg hz, if_neg (show ¬ lev.toNat = 0 by omega)]
set_option maxRecDepth 100000 in
set_option maxHeartbeats 4000000 in
theorem rscore_any (F : Nat → Prop) (v : Ver) (s : Stp) (lv : Value) (lev : Int) (w : World) (h : Rw (rowK filK) F w lv v.levels) (hw : v.wf) (hfew : cntTo v.levels v.levels.length ≤ 100) :
    Calls Try.prog 26 #[.agg (verCells v lv).toArray, .agg (stpCells s).toArray, .int .i64 lev] w fun e w' => e = .returned (.int .i64 (scoreB v s lev)) ∧ Below w.heap.size w w' := by
  have HBO := Lib.hid (fun w' => rbound_any s lev w')
  have HCK := Lib.hid (fun w' (hb : Below w.heap.size w w') => rcheck_any F v _ w' (h.below hb) hw (by omega))
  have HBY := Lib.hid (fun w' (hb : Below w.heap.size w w') => rlbytes_any F v _ lev w' (h.below hb) hw hfew)
  have HEQ : Hid (scoreB v s lev = if boundW s lev = 0 ∨ chkW v ≠ 0 then 0 else (if lev = 0 then ((lat v.levels 0).length : Int) else bytesOfLev v lev) * 100 / boundW s lev) := rscore_eq.symm
  have HBL : Hid (0 ≤ bytesOfLev v lev ∧ bytesOfLev v lev ≤ 1000000000000) := bytesOfLev_le lev
  have HBP : Hid (boundW s lev = 0 ∨ 1 ≤ boundW s lev) := by
    by_cases hs : stpW s = 0
    · by_cases hl : 0 ≤ lev ∧ lev < 4
      · exact .inr (boundW_pos hs hl.1 hl.2).1
      · refine .inl ?_
        unfold boundW
        rw [if_neg (by simp [hs]), if_neg (by omega), if_neg (by omega), if_neg (by omega), if_neg (by omega)]
    · refine .inl ?_
      unfold boundW
      exact if_pos hs
  have HA : Hid (Rw (rowK filK) (· < w.heap.size) w lv v.levels) := h.mono fun k hk _ => hk
  obtain ⟨xa, ca, rfl⟩ := h.isSlice
  clear h hw hfew
  obtain ⟨m, hm⟩ : ∃ m, v.levels.length = m := ⟨_, rfl⟩
  have HM := Lib.hid hm
  rw [hm] at HCK HBY HA ⊢
  clear hm
  unfold verCells at HCK HBY ⊢
  unfold stpCells at HBO ⊢
  go_enter Try.func26, Try.ntmps26
  go_upto_region 1 with fail
  refine wp_gen fun w1 hw1 => ?_
  have HX1 : Hid (Boxed w1 w.heap.size (w.heap.size + 1) v (.slice xa m ca) s) := by rw [hw1]; exact boxed_two _ _ _ _
  have HW1 : Hid (Below w.heap.size w w1) := by rw [hw1]; exact below_two _ _ _
  clear hw1
  obtain ⟨b1, hb1⟩ : ∃ b, w.heap.size = b := ⟨_, rfl⟩
  obtain ⟨b2, hb2⟩ : ∃ b, w.heap.size + 1 = b := ⟨_, rfl⟩
  rw [hb2, hb1] at HX1 ⊢
  clear hb1 hb2
  obtain ⟨-, -, -, -, x4, x5, x6⟩ := HX1.out.cells
  go_wp2_with fail
  clear x4 x5 x6
  refine Calls.mono (HBO.out _) ?_
  rintro _ w2 ⟨rfl, hb⟩
  have HX2 := Lib.hid (HX1.out.below hb)
  have HW2 : Hid (Below w.heap.size w w2) := HW1.out.trans (hb.mono HW1.out.size)
  clear hb HX1 HW1 HBO
  obtain ⟨bd, hbd⟩ : ∃ c, boundW s lev = c := ⟨_, rfl⟩
  rw [hbd] at HEQ HBP ⊢
  clear hbd
  by_cases hb0 : bd = 0
  · subst hb0
    have HF : Hid (scoreB v s lev = 0) := by show _ = _; rw [HEQ.out, if_pos (.inl rfl)]
    go_wp2_with fail
    go_ret
    exact ⟨ret_int HF.out.symm, HW2.out⟩
  have g0 : (bd == 0) = false := by simpa using hb0
  have g1 : (bd != 0) = true := by simpa using hb0
  obtain ⟨x0, x1, x2, x3, -, -, -⟩ := HX2.out.cells
  go_wp2_with fail
  clear x0 x1 x2 x3
  refine Calls.mono (HCK.out _ HW2.out) ?_
  rintro _ w3 ⟨rfl, hb⟩
  have HX3 := Lib.hid (HX2.out.below hb)
  have HW3 : Hid (Below w.heap.size w w3) := HW2.out.trans (hb.mono HW2.out.size)
  clear hb HX2 HW2 HCK
  obtain ⟨ck, hck⟩ : ∃ c, chkW v = c := ⟨_, rfl⟩
  have HC := Lib.hid hck
  rw [hck] at HEQ ⊢
  clear hck
  by_cases hc0 : ck = 0
  case neg =>
    have g2 : (ck == 0) = false := by simpa using hc0
    have g3 : (ck != 0) = true := by simpa using hc0
    have HF : Hid (scoreB v s lev = 0) := by show _ = _; rw [HEQ.out, if_pos (.inr hc0)]
    go_wp2_with fail
    go_ret
    exact ⟨ret_int HF.out.symm, HW3.out⟩
  subst hc0
  have HEQ : Hid (scoreB v s lev = (if lev = 0 then ((lat v.levels 0).length : Int) else bytesOfLev v lev) * 100 / bd) := by show _ = _; rw [HEQ.out, if_neg fun e => e.elim hb0 fun e => e rfl]
  obtain ⟨x0, x1, x2, x3, -, -, -⟩ := HX3.out.cells
  go_wp2_with fail
  clear x0 x1 x2 x3
  refine Calls.mono (HBY.out _ HW3.out) ?_
  rintro _ w4 ⟨rfl, hb⟩
  have HX4 := Lib.hid (HX3.out.below hb)
  have HW4 : Hid (Below w.heap.size w w4) := HW3.out.trans (hb.mono HW3.out.size)
  clear hb HX3 HW3 HBY
  have HB1 : Hid (0 < bd) := by show _ < _; have := HBP.out; omega
  by_cases h0 : lev = 0
  · subst h0
    have hm5 : m = 5 := by rw [← HM.out]; exact (good_small HC.out).1
    subst hm5
    obtain ⟨bl, ol, capl, el, hbl, hbl2, hcl⟩ := levs_at HA.out (by rw [HM.out]; omega)
    obtain ⟨u, hu, hcu⟩ := hcl 0 (by rw [HM.out]; omega)
    rw [HM.out] at el
    injection el with e1 e2 e3
    subst e1 e3
    obtain ⟨ua, uc, rfl⟩ := hu.isSlice
    have HLL : Hid ((lat v.levels 0).length ≤ 10000) := (good_small HC.out).2.1 0 (by rw [HM.out]; omega)
    obtain ⟨n, hn⟩ : ∃ n, (lat v.levels 0).length = n := ⟨_, rfl⟩
    rw [hn] at hcu HLL HEQ
    have c0 : w4.cell? ⟨bl, ol, none⟩ = some (.slice ua n uc) := (HW4.out.cell (p := ⟨bl, ol + 0, none⟩) hbl2).trans hcu
    obtain ⟨x0, -⟩ := HX4.out.cells
    clear e2 hcl hu hcu hn
    go_wp2_with fail
    clear x0 c0
    refine Calls.mono (rpart_any (n : Int) bd w4 (by omega) (by have := HLL.out; omega) HB1.out) ?_
    rintro _ w5 ⟨rfl, hb⟩
    have HW5 : Hid (Below w.heap.size w w5) := HW4.out.trans (hb.mono HW4.out.size)
    clear hb
    have HF : Hid (scoreB v s 0 = (n : Int) * 100 / bd) := by show _ = _; rw [HEQ.out, if_pos trivial]
    go_wp2_with fail
    go_ret
    exact ⟨ret_int HF.out.symm, HW5.out⟩
  · have g4 : (lev == 0) = false := by simpa using h0
    have HF : Hid (scoreB v s lev = bytesOfLev v lev * 100 / bd) := by show _ = _; rw [HEQ.out, if_neg h0]
    obtain ⟨y, hy⟩ : ∃ y, bytesOfLev v lev = y := ⟨_, rfl⟩
    rw [hy] at HF HBL ⊢
    go_wp2_with fail
    refine Calls.mono (rpart_any y bd w4 HBL.out.1 HBL.out.2 HB1.out) ?_
    rintro _ w5 ⟨rfl, hb⟩
    have HW5 : Hid (Below w.heap.size w w5) := HW4.out.trans (hb.mono HW4.out.size)
    clear hb
    go_wp2_with fail
    go_ret
    exact ⟨ret_int HF.out.symm, HW5.out⟩
end Go.Proofs.Ytkcohhldmhdcfaa

namespace Go.Proofs.Ytkcohhldmhdcfaa
open Go.RowKit

theorem worst_lt (v : Ver) (s : Stp) : ∀ k, (worstTo v s k).2 < 100 ↔ ∀ i, i < k → scoreW v s i < 100
  | 0 => ⟨fun _ i hi => by omega, fun _ => by show (0 : Int) < 100; decide⟩
  | k + 1 => by
    have ih := worst_lt v s k
    rw [worstTo]
    by_cases h : (worstTo v s k).2 < scoreW v s k
    · rw [if_pos h]
      constructor
      · intro h1 i hi
        have h1 : scoreW v s k < 100 := h1
        by_cases e : i = k
        · rw [e]; exact h1
        · exact ih.1 (by omega) i (by omega)
      · intro h1
        exact h1 k (by omega)
    · rw [if_neg h]
      constructor
      · intro h1 i hi
        by_cases e : i = k
        · rw [e]; omega
        · exact ih.1 h1 i (by omega)
      · intro h1
        exact ih.2 fun i hi => h1 i (by omega)
theorem score_at {v : Ver} {s : Stp} (hm : mayW v s = 0) {i : Nat} (hi : i < 5) : scoreB v s (i : Int) = scoreW v s i := by
  unfold scoreB
  rw [if_pos ⟨hm, by omega, by omega⟩, Int.toNat_natCast]
set_option maxRecDepth 100000 in
set_option maxHeartbeats 4000000 in
theorem rrest_any (F : Nat → Prop) (v : Ver) (s : Stp) (lv : Value) (w : World) (h : Rw (rowK filK) F w lv v.levels) (hw : v.wf) (hfew : cntTo v.levels v.levels.length ≤ 100) :
    Calls Try.prog 27 #[.agg (verCells v lv).toArray, .agg (stpCells s).toArray] w fun e w' => e = .returned (.bool (restB v s)) ∧ Below w.heap.size w w' := by
  have HST := Lib.hid (fun w' => rsetup_any s w')
  have HCK := Lib.hid (fun w' (hb : Below w.heap.size w w') => rcheck_any F v _ w' (h.below hb) hw (by omega))
  have HSC := Lib.hid (fun (lev : Int) w' (hb : Below w.heap.size w w') => rscore_any F v s _ lev w' (h.below hb) hw hfew)
  have HRB : Hid (restB v s = (decide (mayW v s = 0) && decide ((worstTo v s 5).2 < 100))) := rfl
  obtain ⟨xa, ca, rfl⟩ := h.isSlice
  clear h hw hfew
  generalize v.levels.length = m at *
  unfold verCells at HCK HSC ⊢
  unfold stpCells at HST HSC ⊢
  go_enter Try.func27, Try.ntmps27
  go_upto_region 1 with fail
  refine wp_gen fun w1 hw1 => ?_
  have HX1 : Hid (Boxed w1 w.heap.size (w.heap.size + 1) v (.slice xa m ca) s) := by rw [hw1]; exact boxed_two _ _ _ _
  have HW1 : Hid (Below w.heap.size w w1) := by rw [hw1]; exact below_two _ _ _
  clear hw1
  obtain ⟨b1, hb1⟩ : ∃ b, w.heap.size = b := ⟨_, rfl⟩
  obtain ⟨b2, hb2⟩ : ∃ b, w.heap.size + 1 = b := ⟨_, rfl⟩
  rw [hb2, hb1] at HX1 ⊢
  clear hb1 hb2
  obtain ⟨-, -, -, -, x4, x5, x6⟩ := HX1.out.cells
  go_wp2_with fail
  clear x4 x5 x6
  refine Calls.mono (HST.out _) ?_
  rintro _ w2 ⟨rfl, hb⟩
  have HX2 := Lib.hid (HX1.out.below hb)
  have HW2 : Hid (Below w.heap.size w w2) := HW1.out.trans (hb.mono HW1.out.size)
  clear hb HX1 HW1 HST
  obtain ⟨ck, hck⟩ : ∃ c, stpW s = c := ⟨_, rfl⟩
  have HS := Lib.hid hck
  rw [hck]
  clear hck
  by_cases hc0 : ck = 0
  case neg =>
    have g0 : (ck == 0) = false := by simpa using hc0
    have g1 : (ck != 0) = true := by simpa using hc0
    have HF : Hid (restB v s = false) := by
      show _ = _
      rw [HRB.out, decide_eq_false fun e => hc0 (by rw [← HS.out]; exact (mayW_ok e).2), Bool.false_and]
    go_wp2_with fail
    go_ret
    exact ⟨ret_bool HF.out.symm, HW2.out⟩
  subst hc0
  obtain ⟨x0, x1, x2, x3, -, -, -⟩ := HX2.out.cells
  go_wp2_with fail
  clear x0 x1 x2 x3
  refine Calls.mono (HCK.out _ HW2.out) ?_
  rintro _ w3 ⟨rfl, hb⟩
  have HX3 := Lib.hid (HX2.out.below hb)
  have HW3 : Hid (Below w.heap.size w w3) := HW2.out.trans (hb.mono HW2.out.size)
  clear hb HX2 HW2 HCK
  obtain ⟨ck, hck⟩ : ∃ c, chkW v = c := ⟨_, rfl⟩
  have HC := Lib.hid hck
  rw [hck]
  clear hck
  by_cases hc0 : ck = 0
  case neg =>
    have g0 : (ck == 0) = false := by simpa using hc0
    have g1 : (ck != 0) = true := by simpa using hc0
    have HF : Hid (restB v s = false) := by
      show _ = _
      rw [HRB.out, decide_eq_false fun e => hc0 (by rw [← HC.out]; exact (mayW_ok e).1), Bool.false_and]
    go_wp2_with fail
    go_ret
    exact ⟨ret_bool HF.out.symm, HW3.out⟩
  subst hc0
  have HMY : Hid (mayW v s = 0) := mayW_of HC.out HS.out
  have HRB : Hid (restB v s = decide ((worstTo v s 5).2 < 100)) := by show _ = _; rw [HRB.out, decide_eq_true HMY.out, Bool.true_and]
  go_wp2_with fail
  go_loopw [5] (fun kv wr => ∃ k : Nat, kv = .int .i64 (k : Int) ∧ k ≤ 5 ∧ Hid (∀ i, i < k → scoreW v s i < 100) ∧ Hid (Boxed wr b1 b2 v (.slice xa m ca) s) ∧ Hid (Below w.heap.size w wr)) (fun kv _ => 5 - (intOf kv).toNat)
  case atStart => exact ⟨0, rfl, by omega, fun i hi => absurd hi (by omega), HX3.out, HW3.out⟩
  case round =>
    obtain ⟨k, rfl, hk, HO, HX, HW⟩ := hrel
    clear HX3 HW3
    by_cases hk5 : k < 5
    · have t1 : (k : Int) < 5 := by omega
      have t2 : 0 ≤ (k : Int) := by omega
      have HSA := Lib.hid (score_at HMY.out hk5)
      obtain ⟨x0, x1, x2, x3, x4, x5, x6⟩ := HX.out.cells
      go_wp2_with fail
      clear x0 x1 x2 x3 x4 x5 x6
      refine Calls.mono (HSC.out (k : Int) _ HW.out) ?_
      rintro _ w4 ⟨rfl, hb⟩
      rw [HSA.out]
      have HX4 := Lib.hid (HX.out.below hb)
      have HW4 : Hid (Below w.heap.size w w4) := HW.out.trans (hb.mono HW.out.size)
      clear hb HX HW
      obtain ⟨sc, hsc⟩ : ∃ c, scoreW v s k = c := ⟨_, rfl⟩
      have HSK := Lib.hid hsc
      rw [hsc]
      clear hsc
      by_cases hge : 100 ≤ sc
      · have HF : Hid (restB v s = false) := by
          show _ = _
          rw [HRB.out]
          refine decide_eq_false fun e => ?_
          have := (worst_lt v s 5).1 e k hk5
          rw [HSK.out] at this
          omega
        go_wp2_with fail
        go_ret
        exact ⟨ret_bool HF.out.symm, HW4.out⟩
      · have hs : Hid (∀ i, i < k + 1 → scoreW v s i < 100) := fun i hi => by
          by_cases e : i = k
          · rw [e, HSK.out]; omega
          · exact HO.out i (by omega)
        go_wp2_with fail
        go_roundw
        · exact ⟨k + 1, by go_num, by omega, hs.out, HX4.out, HW4.out⟩
        · simp only [intOf]; omega
    · have t1 : ¬ (k : Int) < 5 := by omega
      obtain rfl : k = 5 := by omega
      have HF : Hid (restB v s = true) := by
        show _ = _
        rw [HRB.out]
        exact decide_eq_true ((worst_lt v s 5).2 HO.out)
      go_wp2_with fail
      go_ret
      exact ⟨ret_bool HF.out.symm, HW.out⟩
end Go.Proofs.Ytkcohhldmhdcfaa

namespace Go.Proofs.Ytkcohhldmhdcfaa
open Go.RowKit

theorem rbef_bcmp (a b : List UInt8) : Op.bytesLess a b = decide (Ent.bcmp a b < 0) := by
  rw [Bool.eq_iff_iff, bless_iff, decide_eq_true_eq]
set_option maxRecDepth 100000 in
set_option maxHeartbeats 4000000 in
theorem rends_any (F : Nat → Prop) (v : Value) (l : List Fil) (w : World) (h : Rw filK F w v l) (hpos : 0 < l.length) (hfew : l.length ≤ 1000000) :
    Calls Try.prog 65 #[v] w fun e w' => ∃ r1 r2, e = .returned (.tuple #[r1, r2]) ∧ Bytes F w' r1 (leastOf l) ∧ Bytes F w' r2 (mostOf l) ∧ Below w.heap.size w w' := by
  obtain ⟨ra, rc, rfl⟩ := h.isSlice
  have HROW := Lib.hid h
  obtain ⟨n, hn⟩ : ∃ n, l.length = n := ⟨_, rfl⟩
  have HLN := Lib.hid hn
  rw [hn] at HROW hfew hpos ⊢
  clear h hn
  have t00 : 0 < (n : Int) := by omega
  obtain ⟨bf, of, rfl, fa, fc, ga, gc, hl0, hm0, hc6⟩ := file_at HROW.out HLN.out hpos
  have HL1 : Hid (leastTo l 1 = (fat l 0).least ∧ mostTo l 1 = (fat l 0).most) := ⟨rfl, rfl⟩
  obtain ⟨f, hf⟩ : ∃ f, fat l 0 = f := ⟨_, rfl⟩
  rw [hf] at hl0 hm0 hc6 HL1
  have HV1 := Lib.hid hl0
  have HV2 := Lib.hid hm0
  have HD : Hid (w.drew.cell? ⟨bf, of + 2, none⟩ = some (.slice fa f.least.length fc) ∧ w.drew.cell? ⟨bf, of + 3, none⟩ = some (.slice ga f.most.length gc)) := ⟨hc6.2.2.1, hc6.2.2.2.1⟩
  clear hf hl0 hm0 hc6
  go_enter Try.func65, Try.ntmps65
  go_upto_region 1 with fail
  refine wp_region_held_drew (S := fun w' => (w'.cell? ⟨bf, of + 2, none⟩ = some (.slice fa f.least.length fc) ∧ w'.cell? ⟨bf, of + 3, none⟩ = some (.slice ga f.most.length gc))) (by kernel_rfl) (HD.out) (fun hHeld => ?_)
  refine wpAnyH_take (i := 0) (oi := ?oA_1_0) (v := ?vA_1_0) ?eA_1_0 (by kernel_rfl) (by kernel_rfl) (by kernel_rfl) ?qA_1_0 (Or.inl ⟨?wA_1_0, ?yA_1_0⟩) (by assumption) ?rA_1_0
  case eA_1_0 => simp only [List.getElem?_toArray, List.getElem?_cons_zero]; rfl
  case wA_1_0 => rfl
  case qA_1_0 => exact fun _ _ _ h => h
  case yA_1_0 => (intro w hSw; (try dsimp only at hSw); go_simp; try with_reducible rfl)
  try simp only [Act.put, List.setIfInBounds_toArray, List.set_cons_zero, List.set_cons_succ]
  refine wpAnyH_take (i := 1) (oi := ?oA_2_1) (v := ?vA_2_1) ?eA_2_1 (by kernel_rfl) (by kernel_rfl) (by kernel_rfl) ?qA_2_1 (Or.inl ⟨?wA_2_1, ?yA_2_1⟩) (by assumption) ?rA_2_1
  case eA_2_1 => simp only [List.getElem?_toArray, List.getElem?_cons_succ, List.getElem?_cons_zero]; rfl
  case wA_2_1 => rfl
  case qA_2_1 => exact fun _ _ _ h => h
  case yA_2_1 => (intro w hSw; (try dsimp only at hSw); go_simp; try with_reducible rfl)
  try simp only [Act.put, List.setIfInBounds_toArray, List.set_cons_zero, List.set_cons_succ]
  refine wpAnyH_take (i := 2) (oi := ?oA_3_2) (v := ?vA_3_2) ?eA_3_2 (by kernel_rfl) (by kernel_rfl) (by kernel_rfl) ?qA_3_2 (Or.inl ⟨?wA_3_2, ?yA_3_2⟩) (by assumption) ?rA_3_2
  case eA_3_2 => simp only [List.getElem?_toArray, List.getElem?_cons_succ, List.getElem?_cons_zero]; rfl
  case wA_3_2 => rfl
  case qA_3_2 => exact fun _ _ _ h => h
  case yA_3_2 => (intro w hSw; (try dsimp only at hSw); go_simp; try with_reducible rfl)
  try simp only [Act.put, List.setIfInBounds_toArray, List.set_cons_zero, List.set_cons_succ]
  refine wpAnyH_take (i := 3) (oi := ?oA_4_3) (v := ?vA_4_3) ?eA_4_3 (by kernel_rfl) (by kernel_rfl) (by kernel_rfl) ?qA_4_3 (Or.inl ⟨?wA_4_3, ?yA_4_3⟩) (by assumption) ?rA_4_3
  case eA_4_3 => simp only [List.getElem?_toArray, List.getElem?_cons_succ, List.getElem?_cons_zero]; rfl
  case wA_4_3 => rfl
  case qA_4_3 => exact fun _ _ _ h => h
  case yA_4_3 => (intro w hSw; (try dsimp only at hSw); go_simp; try with_reducible rfl)
  try simp only [Act.put, List.setIfInBounds_toArray, List.set_cons_zero, List.set_cons_succ]
  refine wpAnyH_take (i := 4) (oi := ?oA_5_4) (v := ?vA_5_4) ?eA_5_4 (by kernel_rfl) (by kernel_rfl) (by kernel_rfl) ?qA_5_4 (Or.inl ⟨?wA_5_4, ?yA_5_4⟩) (by assumption) ?rA_5_4
  case eA_5_4 => simp only [List.getElem?_toArray, List.getElem?_cons_succ, List.getElem?_cons_zero]; rfl
  case wA_5_4 => rfl
  case qA_5_4 => exact fun _ _ _ h => h
  case yA_5_4 => (intro w hSw; (try dsimp only at hSw); go_simp; try with_reducible rfl)
  try simp only [Act.put, List.setIfInBounds_toArray, List.set_cons_zero, List.set_cons_succ]
  refine wpAnyH_take (i := 5) (oi := ?oA_6_5) (v := ?vA_6_5) ?eA_6_5 (by kernel_rfl) (by kernel_rfl) (by kernel_rfl) ?qA_6_5 (Or.inl ⟨?wA_6_5, ?yA_6_5⟩) (by assumption) ?rA_6_5
  case eA_6_5 => simp only [List.getElem?_toArray, List.getElem?_cons_succ, List.getElem?_cons_zero]; rfl
  case wA_6_5 => rfl
  case qA_6_5 => exact fun _ _ _ h => h
  case yA_6_5 => (intro w hSw; (try dsimp only at hSw); go_simp; try with_reducible rfl)
  try simp only [Act.put, List.setIfInBounds_toArray, List.set_cons_zero, List.set_cons_succ]
  refine wpAnyH_take (i := 6) (oi := ?oA_7_6) (v := ?vA_7_6) ?eA_7_6 (by kernel_rfl) (by kernel_rfl) (by kernel_rfl) ?qA_7_6 (Or.inl ⟨?wA_7_6, ?yA_7_6⟩) (by assumption) ?rA_7_6
  case eA_7_6 => simp only [List.getElem?_toArray, List.getElem?_cons_succ, List.getElem?_cons_zero]; rfl
  case wA_7_6 => rfl
  case qA_7_6 => exact fun _ _ _ h => h
  case yA_7_6 => (intro w hSw; (try dsimp only at hSw); go_simp; try with_reducible rfl)
  try simp only [Act.put, List.setIfInBounds_toArray, List.set_cons_zero, List.set_cons_succ]
  refine wpAnyH_take (i := 7) (oi := ?oA_8_7) (v := ?vA_8_7) ?eA_8_7 (by kernel_rfl) (by kernel_rfl) (by kernel_rfl) ?qA_8_7 (Or.inl ⟨?wA_8_7, ?yA_8_7⟩) (by assumption) ?rA_8_7
  case eA_8_7 => simp only [List.getElem?_toArray, List.getElem?_cons_succ, List.getElem?_cons_zero]; rfl
  case wA_8_7 => rfl
  case qA_8_7 => exact fun _ _ _ h => h
  case yA_8_7 => (intro w hSw; (try dsimp only at hSw); go_simp; try with_reducible rfl)
  try simp only [Act.put, List.setIfInBounds_toArray, List.set_cons_zero, List.set_cons_succ]
  refine wpAnyH_take (i := 8) (oi := ?oA_9_8) (v := ?vA_9_8) ?eA_9_8 (by kernel_rfl) (by kernel_rfl) (by kernel_rfl) ?qA_9_8 (Or.inl ⟨?wA_9_8, ?yA_9_8⟩) (by assumption) ?rA_9_8
  case eA_9_8 => simp only [List.getElem?_toArray, List.getElem?_cons_succ, List.getElem?_cons_zero]; rfl
  case wA_9_8 => rfl
  case qA_9_8 => exact fun _ _ _ h => h
  case yA_9_8 => (intro w hSw; (try dsimp only at hSw); go_simp; try with_reducible rfl)
  try simp only [Act.put, List.setIfInBounds_toArray, List.set_cons_zero, List.set_cons_succ]
  refine wpAnyH_take (i := 9) (oi := ?oA_10_9) (v := ?vA_10_9) ?eA_10_9 (by kernel_rfl) (by kernel_rfl) (by kernel_rfl) ?qA_10_9 (Or.inl ⟨?wA_10_9, ?yA_10_9⟩) (by assumption) ?rA_10_9
  case eA_10_9 => simp only [List.getElem?_toArray, List.getElem?_cons_succ, List.getElem?_cons_zero]; rfl
  case wA_10_9 => rfl
  case qA_10_9 => exact fun _ _ _ h => h
  case yA_10_9 => (intro w hSw; (try dsimp only at hSw); go_simp; try with_reducible rfl)
  try simp only [Act.put, List.setIfInBounds_toArray, List.set_cons_zero, List.set_cons_succ]
  refine wpAnyH_done (by kernel_rfl) ?_ _
  obtain ⟨w1, hw1⟩ : ∃ x, w.drew = x := ⟨_, rfl⟩
  have HB0 : Hid (Below w.heap.size w w1) := by rw [← hw1]; exact below_drew (Below.refl _ _)
  rw [hw1]
  clear hw1 HD hHeld
  go_wp2_with fail
  go_loopw [4, 5, 6] (fun lv mv kv wr => ∃ (k : Nat) (a1 a2 : Option Addr) (n1 n2 c1 c2 : Nat), lv = .slice a1 n1 c1 ∧ mv = .slice a2 n2 c2 ∧ kv = .int .i64 (k : Int) ∧ 1 ≤ k ∧ k ≤ n ∧ Hid (Bytes F wr (.slice a1 n1 c1) (leastTo l k)) ∧ Hid (Bytes F wr (.slice a2 n2 c2) (mostTo l k)) ∧ Hid (Below w.heap.size w wr)) (fun _ _ kv _ => n - (intOf kv).toNat)
  case atStart => exact ⟨1, _, _, _, _, _, _, rfl, rfl, rfl, by omega, by omega, by show Bytes _ _ _ _; rw [HL1.out.1]; exact HV1.out.below HB0.out, by show Bytes _ _ _ _; rw [HL1.out.2]; exact HV2.out.below HB0.out, HB0.out⟩
  case round =>
    obtain ⟨k, a1, a2, n1, n2, c1, c2, rfl, rfl, rfl, hk1, hk, HL, HM, HB⟩ := hrel
    by_cases hkn : k < n
    · have t6 : (k : Int) < (n : Int) := by omega
      have t7 : 0 ≤ (k : Int) := by omega
      obtain ⟨_, _, ev, pa, pc, qa, qc, hp1, hp2, hp6⟩ := file_at (HROW.out.below HB.out) HLN.out hkn
      injection ev with ev
      injection ev with e1 e2
      subst e1 e2
      have HLS : Hid (leastTo l (k + 1) = if k = 0 ∨ Ent.bcmp (fat l k).least (leastTo l k) < 0 then (fat l k).least else leastTo l k) := rfl
      have HMS : Hid (mostTo l (k + 1) = if k = 0 ∨ 0 < Ent.bcmp (fat l k).most (mostTo l k) then (fat l k).most else mostTo l k) := rfl
      obtain ⟨g, hg⟩ : ∃ f, fat l k = f := ⟨_, rfl⟩
      rw [hg] at hp1 hp2 hp6 HLS HMS
      obtain ⟨ls, hls⟩ : ∃ f, leastTo l k = f := ⟨_, rfl⟩
      obtain ⟨ms, hms⟩ : ∃ f, mostTo l k = f := ⟨_, rfl⟩
      rw [hls] at HL HLS
      rw [hms] at HM HMS
      have HP1 := Lib.hid hp1
      have HP2 := Lib.hid hp2
      have c2' := hp6.2.2.1
      have c3' := hp6.2.2.2.1
      have HK0 : Hid (k = 0 → False) := fun e => by omega
      clear hp1 hp2 hp6 hg hls hms
      go_wp2_with fail
      refine Calls.mono (rbefore_any _ _ _ g.least _ ls wr HP1.out HL.out) ?_
      rintro _ w2 ⟨rfl, hb⟩
      have hb := below_drewN hb
      have HB2 : Hid (Below w.heap.size w w2) := HB.out.trans (hb.mono HB.out.size)
      have HL2 := Lib.hid (HL.out.below hb)
      have HM2 := Lib.hid (HM.out.below hb)
      have HQ1 := Lib.hid (HP1.out.below hb)
      have HQ2 := Lib.hid (HP2.out.below hb)
      have d2 : w2.cell? ⟨bf, of + k * 6 + 2, none⟩ = some (.slice pa g.least.length pc) := (hb.cell (p := ⟨bf, of + k * 6 + 2, none⟩) (World.block_lt_of_cell? _ _ c2')).trans c2'
      have d3 : w2.cell? ⟨bf, of + k * 6 + 3, none⟩ = some (.slice qa g.most.length qc) := (hb.cell (p := ⟨bf, of + k * 6 + 3, none⟩) (World.block_lt_of_cell? _ _ c3')).trans c3'
      clear hb c2' c3' HL HM HB HP1 HP2
      by_cases hlt : Ent.bcmp g.least ls < 0
      · have g0 : Op.bytesLess g.least ls = true := (bless_iff _ _).2 hlt
        have HR1 : Hid (leastTo l (k + 1) = g.least) := by show _ = _; rw [HLS.out, if_pos (.inr hlt)]
        rw [g0]
        go_wp2_with fail
        refine Calls.mono (rbefore_any _ _ _ ms _ g.most w2 HM2.out HQ2.out) ?_
        rintro _ w3 ⟨rfl, hb⟩
        have hb := below_drewN hb
        have HB3 : Hid (Below w.heap.size w w3) := HB2.out.trans (hb.mono HB2.out.size)
        have HL3 := Lib.hid (HL2.out.below hb)
        have HM3 := Lib.hid (HM2.out.below hb)
        have HQ3 := Lib.hid (HQ1.out.below hb)
        have HQ4 := Lib.hid (HQ2.out.below hb)
        have d3' : w3.cell? ⟨bf, of + k * 6 + 3, none⟩ = some (.slice qa g.most.length qc) := (hb.cell (p := ⟨bf, of + k * 6 + 3, none⟩) (World.block_lt_of_cell? _ _ d3)).trans d3
        clear hb
        by_cases hgt : 0 < Ent.bcmp g.most ms
        · have g1 : Op.bytesLess ms g.most = true := (bless_iff _ _).2 (by rw [isCmp_bcmp.anti g.most ms]; omega)
          have HR2 : Hid (mostTo l (k + 1) = g.most) := by show _ = _; rw [HMS.out, if_pos (.inr hgt)]
          rw [g1]
          go_wp2_with fail
          go_roundw
          · exact ⟨k + 1, _, _, _, _, _, _, rfl, rfl, by go_num, by omega, by omega, by rw [HR1.out]; exact HQ3.out, by rw [HR2.out]; exact HQ4.out, HB3.out⟩
          · simp only [intOf]; omega
        · have g1 : Op.bytesLess ms g.most = false := by rw [rbef_bcmp, isCmp_bcmp.anti g.most ms]; exact decide_eq_false (by omega)
          have HR2 : Hid (mostTo l (k + 1) = ms) := by show _ = _; rw [HMS.out, if_neg fun e => e.elim HK0.out hgt]
          rw [g1]
          go_wp2_with fail
          go_roundw
          · exact ⟨k + 1, _, _, _, _, _, _, rfl, rfl, by go_num, by omega, by omega, by rw [HR1.out]; exact HQ3.out, by rw [HR2.out]; exact HM3.out, HB3.out⟩
          · simp only [intOf]; omega
      · have g0 : Op.bytesLess g.least ls = false := by rw [rbef_bcmp]; exact decide_eq_false hlt
        have HR1 : Hid (leastTo l (k + 1) = ls) := by show _ = _; rw [HLS.out, if_neg fun e => e.elim HK0.out hlt]
        rw [g0]
        go_wp2_with fail
        refine Calls.mono (rbefore_any _ _ _ ms _ g.most w2 HM2.out HQ2.out) ?_
        rintro _ w3 ⟨rfl, hb⟩
        have hb := below_drewN hb
        have HB3 : Hid (Below w.heap.size w w3) := HB2.out.trans (hb.mono HB2.out.size)
        have HL3 := Lib.hid (HL2.out.below hb)
        have HM3 := Lib.hid (HM2.out.below hb)
        have HQ3 := Lib.hid (HQ1.out.below hb)
        have HQ4 := Lib.hid (HQ2.out.below hb)
        have d3' : w3.cell? ⟨bf, of + k * 6 + 3, none⟩ = some (.slice qa g.most.length qc) := (hb.cell (p := ⟨bf, of + k * 6 + 3, none⟩) (World.block_lt_of_cell? _ _ d3)).trans d3
        clear hb
        by_cases hgt : 0 < Ent.bcmp g.most ms
        · have g1 : Op.bytesLess ms g.most = true := (bless_iff _ _).2 (by rw [isCmp_bcmp.anti g.most ms]; omega)
          have HR2 : Hid (mostTo l (k + 1) = g.most) := by show _ = _; rw [HMS.out, if_pos (.inr hgt)]
          rw [g1]
          go_wp2_with fail
          go_roundw
          · exact ⟨k + 1, _, _, _, _, _, _, rfl, rfl, by go_num, by omega, by omega, by rw [HR1.out]; exact HL3.out, by rw [HR2.out]; exact HQ4.out, HB3.out⟩
          · simp only [intOf]; omega
        · have g1 : Op.bytesLess ms g.most = false := by rw [rbef_bcmp, isCmp_bcmp.anti g.most ms]; exact decide_eq_false (by omega)
          have HR2 : Hid (mostTo l (k + 1) = ms) := by show _ = _; rw [HMS.out, if_neg fun e => e.elim HK0.out hgt]
          rw [g1]
          go_wp2_with fail
          go_roundw
          · exact ⟨k + 1, _, _, _, _, _, _, rfl, rfl, by go_num, by omega, by omega, by rw [HR1.out]; exact HL3.out, by rw [HR2.out]; exact HM3.out, HB3.out⟩
          · simp only [intOf]; omega
    · have t6 : ¬ (k : Int) < (n : Int) := by omega
      have hkn' : k = n := by omega
      subst hkn'
      have HP : Hid (leastOf l = leastTo l k ∧ mostOf l = mostTo l k) := by unfold leastOf mostOf; rw [HLN.out]; exact ⟨rfl, rfl⟩
      go_wp2_with fail
      go_ret2
      exact ⟨_, _, rfl, by rw [HP.out.1]; exact HL.out, by rw [HP.out.2]; exact HM.out, HB.out⟩
end Go.Proofs.Ytkcohhldmhdcfaa
