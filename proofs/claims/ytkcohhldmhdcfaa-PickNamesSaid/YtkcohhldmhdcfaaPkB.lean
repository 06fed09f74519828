/- Chapter 14: may, score. -/
import Derived.Test.YtkcohhldmhdcfaaPkA
import Derived.Test.YtkcohhldmhdcfaaDrawL
namespace Go.Proofs.Ytkcohhldmhdcfaa
open Go.RowKit

/-- May a version and a setup be? -/
noncomputable def mayW (v : Ver) (s : Stp) : Int := Ent.lex (chkW v) (stpW s)
theorem mayW_ok {v : Ver} {s : Stp} (h : mayW v s = 0) : chkW v = 0 ∧ stpW s = 0 := by
  unfold mayW Ent.lex at h
  split at h
  · contradiction
  · rename_i h1; exact ⟨by simpa using h1, h⟩
theorem mayW_of {v : Ver} {s : Stp} (h1 : chkW v = 0) (h2 : stpW s = 0) : mayW v s = 0 := by unfold mayW Ent.lex; simp [h1, h2]
structure Boxed (w : World) (b1 b2 : Nat) (v : Ver) (lv : Value) (s : Stp) : Prop where
  ver : Blk w b1 (verCells v lv).toArray 25
  stp : Blk w b2 (stpCells s).toArray 27
theorem Boxed.below {w w' : World} {b1 b2 : Nat} {v : Ver} {lv : Value} {s : Stp} (h : Boxed w b1 b2 v lv s) (hb : Below w.heap.size w w') : Boxed w' b1 b2 v lv s := ⟨h.ver.below hb h.ver.lt, h.stp.below hb h.stp.lt⟩
theorem Boxed.cells {w : World} {b1 b2 : Nat} {v : Ver} {lv : Value} {s : Stp} (h : Boxed w b1 b2 v lv s) : w.cell? ⟨b1, 0, none⟩ = some lv ∧ w.cell? ⟨b1, 1, none⟩ = some (.int .u64 v.next) ∧ w.cell? ⟨b1, 2, none⟩ = some (.int .u64 v.seq) ∧ w.cell? ⟨b1, 3, none⟩ = some (.int .u64 v.log) ∧ w.cell? ⟨b2, 0, none⟩ = some (.int .i64 s.trig) ∧ w.cell? ⟨b2, 1, none⟩ = some (.int .i64 s.base) ∧ w.cell? ⟨b2, 2, none⟩ = some (.int .i64 s.fac) := ⟨h.ver.cell rfl, h.ver.cell rfl, h.ver.cell rfl, h.ver.cell rfl, h.stp.cell rfl, h.stp.cell rfl, h.stp.cell rfl⟩
theorem boxed_two (w : World) (v : Ver) (lv : Value) (s : Stp) : Boxed ((w.alloc (.cells (verCells v lv).toArray 25)).alloc (.cells (stpCells s).toArray 27)) w.heap.size (w.heap.size + 1) v lv s := ⟨(Blk.at_new rfl rfl).alloc _, blk_two w _ _ _⟩

set_option maxRecDepth 100000 in
set_option maxHeartbeats 4000000 in
theorem may_any (F : Nat → Prop) (v : Ver) (s : Stp) (lv : Value) (w : World) (h : Rw (rowK filK) F w lv v.levels) (hw : v.wf) (hfew : cntTo v.levels v.levels.length ≤ 1000000) :
    Calls Try.prog 53 #[.agg (verCells v lv).toArray, .agg (stpCells s).toArray] w fun e w' => e = .returned (.int .i64 (mayW v s)) ∧ Below w.heap.size w w' := by
  obtain ⟨xa, ca, rfl⟩ := h.isSlice
  have HCK := Lib.hid (fun w' (hb : Below w.heap.size w w') => check_any F v _ w' (h.below hb) hw hfew)
  have HCS := Lib.hid (fun w' => setup_any s w')
  have HMW : Hid (mayW v s = Ent.lex (chkW v) (stpW s)) := rfl
  clear h
  generalize v.levels.length = m at *
  unfold verCells at HCK ⊢
  unfold stpCells at HCS ⊢
  go_enter Try.func53, Try.ntmps53
  go_upto_region 1 with fail
  refine wp_gen fun w1 hw1 => ?_
  have HX1 : Hid (Boxed w1 w.heap.size (w.heap.size + 1) v (.slice xa m ca) s) := by rw [hw1]; exact boxed_two _ _ _ _
  have HW1 : Hid (Below w.heap.size w w1) := by rw [hw1]; exact below_two _ _ _
  clear hw1
  obtain ⟨b1, hb1⟩ : ∃ b, w.heap.size = b := ⟨_, rfl⟩
  obtain ⟨b2, hb2⟩ : ∃ b, w.heap.size + 1 = b := ⟨_, rfl⟩
  rw [hb2] at HX1 ⊢
  have HXS := Lib.hid hb1
  rw [hb1] at HX1 ⊢
  clear hb1 hb2
  have HKP : Hid (∀ W, Below w1.heap.size w1 W → (W.cell? ⟨b1, 0, none⟩ = some (.slice xa m ca) ∧ W.cell? ⟨b1, 1, none⟩ = some (.int .u64 v.next) ∧ W.cell? ⟨b1, 2, none⟩ = some (.int .u64 v.seq) ∧ W.cell? ⟨b1, 3, none⟩ = some (.int .u64 v.log) ∧ W.cell? ⟨b2, 0, none⟩ = some (.int .i64 s.trig) ∧ W.cell? ⟨b2, 1, none⟩ = some (.int .i64 s.base) ∧ W.cell? ⟨b2, 2, none⟩ = some (.int .i64 s.fac))) := fun W hb => (HX1.out.below hb).cells
  have HB0 : Hid (Below w1.heap.size w1 w1.drew) := below_drew (Below.refl _ _)
  refine wp_region_held_drew (S := fun w' => (w'.cell? ⟨b1, 0, none⟩ = some (.slice xa m ca) ∧ w'.cell? ⟨b1, 1, none⟩ = some (.int .u64 v.next) ∧ w'.cell? ⟨b1, 2, none⟩ = some (.int .u64 v.seq) ∧ w'.cell? ⟨b1, 3, none⟩ = some (.int .u64 v.log) ∧ w'.cell? ⟨b2, 0, none⟩ = some (.int .i64 s.trig) ∧ w'.cell? ⟨b2, 1, none⟩ = some (.int .i64 s.base) ∧ w'.cell? ⟨b2, 2, none⟩ = some (.int .i64 s.fac))) (by kernel_rfl) (HKP.out _ HB0.out) (fun hHeld => ?_)
  refine wpAnyH_take (i := 0) (oi := ?oR_1_0) (v := ?vR_1_0) ?eR_1_0 (by kernel_rfl) (by kernel_rfl) (by kernel_rfl) ?qR_1_0 (Or.inl ⟨?wR_1_0, ?yR_1_0⟩) (by assumption) ?rR_1_0
  case eR_1_0 => simp only [List.getElem?_toArray, List.getElem?_cons_zero]; rfl
  case wR_1_0 => rfl
  case qR_1_0 => exact fun _ _ _ h => h
  case yR_1_0 => (intro w hSw; (try dsimp only at hSw); go_simp; try with_reducible rfl)
  try simp only [Act.put, List.setIfInBounds_toArray, List.set_cons_zero, List.set_cons_succ]
  refine wpAnyH_take (i := 2) (oi := ?oR_2_2) (v := ?vR_2_2) ?eR_2_2 (by kernel_rfl) (by kernel_rfl) (by kernel_rfl) ?qR_2_2 (Or.inl ⟨?wR_2_2, ?yR_2_2⟩) (by assumption) ?rR_2_2
  case eR_2_2 => simp only [List.getElem?_toArray, List.getElem?_cons_succ, List.getElem?_cons_zero]; rfl
  case wR_2_2 => rfl
  case qR_2_2 => exact fun _ _ _ h => h
  case yR_2_2 => (intro w hSw; (try dsimp only at hSw); go_simp; try with_reducible rfl)
  try simp only [Act.put, List.setIfInBounds_toArray, List.set_cons_zero, List.set_cons_succ]
  have hOld := hHeld
  clear hHeld
  refine wpAnyH_ready (rs := [1]) (by kernel_rfl) (by simp) ?_
  refine AllReadyH.cons (o := ?oR_3_1) ?eR_3_1 (fun K hK => ?_) AllReadyH.nil
  case eR_3_1 => simp only [List.getElem?_toArray, List.getElem?_cons_succ, List.getElem?_cons_zero]; rfl
  go_simp
  (go_at_call 33; refine Calls.mono (HCK.out _ (HW1.out.trans (HB0.out.mono HW1.out.size))) ?_; rintro _ x1 ⟨rfl, hb1⟩; have HB1 : Hid (Below w1.heap.size w1 x1) := HB0.out.trans (hb1.mono HB0.out.size))
  try go_wp2_with fail
  refine hK.out _ _ (HKP.out _ HB1.out) (fun hHeld => ?_)
  clear hK hOld
  try simp only [Act.put, List.setIfInBounds_toArray, List.set_cons_zero, List.set_cons_succ]
  have hOld := hHeld
  clear hHeld
  refine wpAnyH_ready (rs := [3]) (by kernel_rfl) (by simp) ?_
  refine AllReadyH.cons (o := ?oR_4_3) ?eR_4_3 (fun K hK => ?_) AllReadyH.nil
  case eR_4_3 => simp only [List.getElem?_toArray, List.getElem?_cons_succ, List.getElem?_cons_zero]; rfl
  go_simp
  (go_at_call 12; refine Calls.mono (HCS.out _) ?_; rintro _ x2 ⟨rfl, hb2⟩; have HB2 : Hid (Below w1.heap.size w1 x2) := HB1.out.trans (hb2.mono HB1.out.size))
  try go_wp2_with fail
  refine hK.out _ _ (HKP.out _ HB2.out) (fun hHeld => ?_)
  clear hK hOld
  try simp only [Act.put, List.setIfInBounds_toArray, List.set_cons_zero, List.set_cons_succ]
  have hOld := hHeld
  clear hHeld
  refine wpAnyH_ready (rs := [4]) (by kernel_rfl) (by simp) ?_
  refine AllReadyH.cons (o := ?oR_5_4) ?eR_5_4 (fun K hK => ?_) AllReadyH.nil
  case eR_5_4 => simp only [List.getElem?_toArray, List.getElem?_cons_succ, List.getElem?_cons_zero]; rfl
  go_simp
  skip
  try go_wp2_with fail
  refine hK.out _ _ (HKP.out _ (HB2.out.alloc HB2.out.size _)) (fun hHeld => ?_)
  clear hK hOld
  try simp only [Act.put, List.setIfInBounds_toArray, List.set_cons_zero, List.set_cons_succ]
  have hOld := hHeld
  clear hHeld
  refine wpAnyH_ready (rs := [5]) (by kernel_rfl) (by simp) ?_
  refine AllReadyH.cons (o := ?oR_6_5) ?eR_6_5 (fun K hK => ?_) AllReadyH.nil
  case eR_6_5 => simp only [List.getElem?_toArray, List.getElem?_cons_succ, List.getElem?_cons_zero]; rfl
  go_simp
  (go_at_call 102; refine calls_gen fun y1 hy1 => ?_; have HZ : Hid (Blk y1 x2.heap.size #[.int .i64 (chkW v), .int .i64 (stpW s)] 30) := (by rw [hy1]; exact Blk.at_new rfl rfl); have HBy : Hid (Below w1.heap.size w1 y1) := (by rw [hy1]; exact HB2.out.alloc HB2.out.size _); refine Calls.mono (or2_any _ _ _ y1 HZ.out) ?_; rintro _ x3 ⟨rfl, hb3⟩; have HB3 : Hid (Below w1.heap.size w1 x3) := HBy.out.trans (hb3.mono HBy.out.size))
  try go_wp2_with fail
  refine hK.out _ _ (HKP.out _ HB3.out) (fun hHeld => ?_)
  clear hK hOld
  try simp only [Act.put, List.setIfInBounds_toArray, List.set_cons_zero, List.set_cons_succ]
  refine wpAnyH_take (i := 6) (oi := ?oR_7_6) (v := ?vR_7_6) ?eR_7_6 (by kernel_rfl) (by kernel_rfl) (by kernel_rfl) ?qR_7_6 (Or.inl ⟨?wR_7_6, ?yR_7_6⟩) (by assumption) ?rR_7_6
  case eR_7_6 => simp only [List.getElem?_toArray, List.getElem?_cons_succ, List.getElem?_cons_zero]; rfl
  case wR_7_6 => rfl
  case qR_7_6 => exact fun _ _ _ h => h
  case yR_7_6 => (intro w hSw; (try dsimp only at hSw); go_simp; try with_reducible rfl)
  try simp only [Act.put, List.setIfInBounds_toArray, List.set_cons_zero, List.set_cons_succ]
  refine wpAnyH_done (by kernel_rfl) ?_ _
  go_wp2_with fail
  go_ret
  exact ⟨ret_int HMW.out.symm, HW1.out.trans (HB3.out.mono HW1.out.size)⟩

theorem wrap_div {x d : Int} (h0 : 0 ≤ x) (hd : 0 < d) (h1 : x ≤ 1000000000000000) : RowKit.wrap64 (x.tdiv d) = x / d := by
  rw [Int.tdiv_eq_ediv_of_nonneg h0]
  have q0 : 0 ≤ x / d := Int.ediv_nonneg h0 (by omega)
  have q1 : x / d ≤ x := Int.ediv_le_self d h0
  unfold RowKit.wrap64
  omega
/-- A level's score. -/
noncomputable def scoreW (v : Ver) (s : Stp) (i : Nat) : Int := if boundW s i = 0 then 0 else (if i = 0 then ((lat v.levels 0).length : Int) else bytesOfLev v i) * 100 / boundW s i

set_option maxRecDepth 100000 in
set_option maxHeartbeats 4000000 in
theorem score_any (F : Nat → Prop) (v : Ver) (s : Stp) (lv : Value) (i : Nat) (w : World) (h : Rw (rowK filK) F w lv v.levels) (hw : v.wf) (hck : chkW v = 0) (hst : stpW s = 0) (hi : i < 5) :
    Calls Try.prog 63 #[.agg (verCells v lv).toArray, .agg (stpCells s).toArray, .int .i64 (i : Int)] w fun e w' => e = .returned (.int .i64 (scoreW v s i)) ∧ Below w.heap.size w w' := by
  have h5 : v.levels.length = 5 := (good_small hck).1
  have hfew : cntTo v.levels v.levels.length ≤ 10000 := (chkW_good hck).2.2
  have hil : i < v.levels.length := by rw [h5]; exact hi
  obtain ⟨bl, ol, ca, el, hbl, hlt, hcl⟩ := levs_at h (by omega)
  obtain ⟨u, hu, hcu⟩ := hcl i hil
  subst el
  have HLL : Hid ((lat v.levels i).length ≤ 10000) := Nat.le_trans (lev_le_cnt hil) hfew
  have HVB := Lib.hid (fun w' (hb : Below w.heap.size w w') => vbytes_any F v _ (i : Int) w' (h.below hb) hw (by omega) ⟨by omega, by omega⟩)
  have HBD := Lib.hid (fun w' => bound_any s (i : Int) w')
  have HBY : Hid (0 ≤ bytesOfLev v (i : Int) ∧ bytesOfLev v (i : Int) ≤ 1000000000000) := by
    have hb := bytesTo_le (l := lat v.levels i) ((chkW_good hck).2.1.fine i hil) _ (Nat.le_refl _)
    have := HLL.out
    have e : bytesOfLev v (i : Int) = bytesTo (lat v.levels i) (lat v.levels i).length := by
      unfold bytesOfLev
      rw [if_pos ⟨hck, by omega, by omega⟩]
      rfl
    rw [e]
    exact ⟨hb.1, by omega⟩
  have HBP : Hid (boundW s (i : Int) = 0 ∨ 1 ≤ boundW s (i : Int)) := by
    by_cases h4 : i < 4
    · exact .inr (boundW_pos hst (by omega) (by omega)).1
    · refine .inl ?_
      unfold boundW
      rw [if_neg (by simp [hst]), if_neg (by omega), if_neg (by omega), if_neg (by omega), if_neg (by omega)]
  rw [h5] at HVB ⊢
  have HSW : Hid (scoreW v s i = if boundW s i = 0 then 0 else (if i = 0 then ((lat v.levels 0).length : Int) else bytesOfLev v i) * 100 / boundW s i) := rfl
  have HL0 : Hid (i = 0 → (lat v.levels 0).length = (lat v.levels i).length) := fun e => by rw [e]
  obtain ⟨ua, uc, rfl⟩ := hu.isSlice
  obtain ⟨n, hn⟩ : ∃ n, (lat v.levels i).length = n := ⟨_, rfl⟩
  rw [hn] at hcu HLL HL0
  have HNL := Lib.hid hn
  clear hcl hu h h5 hfew hil hck hst hw hn
  unfold verCells at HVB ⊢
  unfold stpCells at HBD ⊢
  go_enter Try.func63, Try.ntmps63
  go_upto_region 1 with fail
  refine wp_gen fun w1 hw1 => ?_
  have HX1 : Hid (Boxed w1 w.heap.size (w.heap.size + 1) v (.slice (some ⟨bl, ol, none⟩) 5 ca) s) := by rw [hw1]; exact boxed_two _ _ _ _
  have HW1 : Hid (Below w.heap.size w w1) := by rw [hw1]; exact below_two _ _ _
  clear hw1
  obtain ⟨b1, hb1⟩ : ∃ b, w.heap.size = b := ⟨_, rfl⟩
  obtain ⟨b2, hb2⟩ : ∃ b, w.heap.size + 1 = b := ⟨_, rfl⟩
  have HXS := Lib.hid hb1
  rw [hb2, hb1] at HX1 ⊢
  rw [hb1] at hlt HVB
  have c0 : w1.cell? ⟨bl, ol + i, none⟩ = some (.slice ua n uc) := by rw [HW1.out.cell (p := ⟨bl, ol + i, none⟩) (by rw [hb1]; exact hlt)]; exact hcu
  clear hb1 hb2 hcu
  have t1 : (i : Int) < 5 := by omega
  have t2 : 0 ≤ (i : Int) := by omega
  by_cases hz : i = 0
  · subst hz
    rw [show ((0 : Nat) : Int) = 0 from rfl] at HBD HBP HSW
    have c0 : w1.cell? ⟨bl, ol, none⟩ = some (.slice ua n uc) := c0
    obtain ⟨x0, -, -, -, x4, x5, x6⟩ := HX1.out.cells
    go_wp2_with fail
    clear x0 x4 x5 x6 c0
    refine Calls.mono (HBD.out _) ?_
    rintro _ w2 ⟨rfl, hb⟩
    have HW2 : Hid (Below w.heap.size w w2) := HW1.out.trans (hb.mono HW1.out.size)
    clear hb HX1 HW1
    obtain ⟨bd, hbd⟩ : ∃ c, boundW s 0 = c := ⟨_, rfl⟩
    rw [hbd] at HBP HSW ⊢
    clear hbd
    by_cases hb0 : bd = 0
    · subst hb0
      have HF : Hid (scoreW v s 0 = 0) := by show _ = _; rw [HSW.out, if_pos rfl]
      go_wp2_with fail
      go_ret
      exact ⟨ret_int HF.out.symm, by rw [HXS.out]; exact HXS.out ▸ HW2.out⟩
    · have g0 : (bd == 0) = false := by simpa using hb0
      have g1 : (bd != 0) = true := by simpa using hb0
      have g2 : 0 < bd := by have := HBP.out; omega
      have HF : Hid (scoreW v s 0 = (n : Int) * 100 / bd) := by show _ = _; rw [HSW.out, if_neg hb0, if_pos trivial, HNL.out]
      have g3 : RowKit.wrap64 ((n : Int) * 100) = (n : Int) * 100 := by have := HLL.out; unfold RowKit.wrap64; omega
      have g4 : 0 ≤ (n : Int) * 100 := by omega
      have HQ : Hid (RowKit.wrap64 (((n : Int) * 100).tdiv bd) = (n : Int) * 100 / bd) := wrap_div g4 g2 (by have := HLL.out; omega)
      go_wp2_with fail
      go_ret
      exact ⟨ret_int (HQ.out.trans HF.out.symm), by rw [HXS.out]; exact HXS.out ▸ HW2.out⟩
  · have t3 : 0 < (i : Int) := by omega
    obtain ⟨x0, x1, x2, x3, x4, x5, x6⟩ := HX1.out.cells
    go_wp2_with fail
    clear x0 x1 x2 x3 x4 x5 x6 c0
    refine Calls.mono (HVB.out _ (HXS.out ▸ HW1.out)) ?_
    rintro _ w2 ⟨rfl, hb⟩
    have HX2 := Lib.hid (HX1.out.below hb)
    have HW2 : Hid (Below w.heap.size w w2) := HW1.out.trans (hb.mono HW1.out.size)
    clear hb HX1 HW1
    obtain ⟨y, hy⟩ : ∃ y, bytesOfLev v (i : Int) = y := ⟨_, rfl⟩
    rw [hy] at HBY HSW ⊢
    clear hy
    obtain ⟨x0, -, -, -, x4, x5, x6⟩ := HX2.out.cells
    go_wp2_with fail
    clear x0 x4 x5 x6
    refine Calls.mono (HBD.out _) ?_
    rintro _ w3 ⟨rfl, hb⟩
    have HW3 : Hid (Below w.heap.size w w3) := HW2.out.trans (hb.mono HW2.out.size)
    clear hb HX2 HW2
    obtain ⟨bd, hbd⟩ : ∃ c, boundW s (i : Int) = c := ⟨_, rfl⟩
    rw [hbd] at HBP HSW ⊢
    clear hbd
    by_cases hb0 : bd = 0
    · subst hb0
      have HF : Hid (scoreW v s i = 0) := by show _ = _; rw [HSW.out, if_pos rfl]
      go_wp2_with fail
      go_ret
      exact ⟨ret_int HF.out.symm, by rw [HXS.out]; exact HXS.out ▸ HW3.out⟩
    · have g0 : (bd == 0) = false := by simpa using hb0
      have g1 : (bd != 0) = true := by simpa using hb0
      have g2 : 0 < bd := by have := HBP.out; omega
      have HF : Hid (scoreW v s i = y * 100 / bd) := by show _ = _; rw [HSW.out, if_neg hb0, if_neg hz]
      have g3 : RowKit.wrap64 (y * 100) = y * 100 := by have := HBY.out; unfold RowKit.wrap64; omega
      have g4 : 0 ≤ y * 100 := by have := HBY.out; omega
      have HQ : Hid (RowKit.wrap64 ((y * 100).tdiv bd) = y * 100 / bd) := wrap_div g4 g2 (by have := HBY.out; omega)
      go_wp2_with fail
      go_ret
      exact ⟨ret_int (HQ.out.trans HF.out.symm), by rw [HXS.out]; exact HXS.out ▸ HW3.out⟩
end Go.Proofs.Ytkcohhldmhdcfaa
