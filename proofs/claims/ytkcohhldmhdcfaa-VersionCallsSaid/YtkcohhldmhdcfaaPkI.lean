/- Chapter 14: pick.Next. -/
import Derived.Test.YtkcohhldmhdcfaaPkGb
namespace Go.Proofs.Ytkcohhldmhdcfaa
open Go.RowKit

/-- What pick.Next leaves. -/
def NextPost (v : Ver) (s : Stp) (w : World) (x : Ending) (w' : World) : Prop :=
  (nextW v s ≠ 0 → x = .returned (.tuple #[.agg job0.toArray, .int .i64 (nextW v s)])) ∧
  (nextW v s = 0 → ∃ u lo le mo, x = .returned (.tuple #[.agg (jobC (jLev v s : Int) u lo le mo (jBot v (jLev v s))).toArray, .int .i64 0]) ∧ Rw filK (fun k => w.heap.size ≤ k) w' u (jUp v (jLev v s)) ∧ Rw filK (fun k => w.heap.size ≤ k) w' lo (jLo v (jLev v s)) ∧
    Bytes (fun k => w.heap.size ≤ k) w' le (leastOf (jAll v (jLev v s))) ∧ Bytes (fun k => w.heap.size ≤ k) w' mo (mostOf (jAll v (jLev v s)))) ∧ Below w.heap.size w w'
theorem job0_set {w : World} {rb : Nat} {T : TypeId} (h : Blk w rb job0.toArray T) : Blk ((((((w.setCell ⟨rb, 0, none⟩ (.int .i64 0)).setCell ⟨rb, 1, none⟩ (.slice none 0 0)).setCell ⟨rb, 2, none⟩ (.slice none 0 0)).setCell ⟨rb, 3, none⟩ (.slice none 0 0)).setCell ⟨rb, 4, none⟩ (.slice none 0 0)).setCell ⟨rb, 5, none⟩ (.bool false)) rb job0.toArray T :=
  (((((h.set 0 _).set 1 _).set 2 _).set 3 _).set 4 _).set 5 _
theorem below_setJ {b0 b : Nat} {w W : World} {x0 x1 x2 x3 x4 x5 : Value} (h : Below b0 w W) (hr : b0 ≤ b) : Below b0 w ((((((W.setCell ⟨b, 0, none⟩ x0).setCell ⟨b, 1, none⟩ x1).setCell ⟨b, 2, none⟩ x2).setCell ⟨b, 3, none⟩ x3).setCell ⟨b, 4, none⟩ x4).setCell ⟨b, 5, none⟩ x5) := (((((h.setCell hr _).setCell hr _).setCell hr _).setCell hr _).setCell hr _).setCell hr _
theorem job0_cells {w : World} {rb : Nat} {T : TypeId} (h : Blk w rb job0.toArray T) : w.cell? ⟨rb, 0, none⟩ = some (.int .i64 0) ∧ w.cell? ⟨rb, 1, none⟩ = some (.slice none 0 0) ∧ w.cell? ⟨rb, 2, none⟩ = some (.slice none 0 0) ∧ w.cell? ⟨rb, 3, none⟩ = some (.slice none 0 0) ∧ w.cell? ⟨rb, 4, none⟩ = some (.slice none 0 0) ∧ w.cell? ⟨rb, 5, none⟩ = some (.bool false) :=
  ⟨h.cell rfl, h.cell rfl, h.cell rfl, h.cell rfl, h.cell rfl, h.cell rfl⟩
theorem boxed_three (w : World) (v : Ver) (lv : Value) (s : Stp) (o : Obj) : Boxed (((w.alloc (.cells (verCells v lv).toArray 25)).alloc (.cells (stpCells s).toArray 27)).alloc o) w.heap.size (w.heap.size + 1) v lv s := ⟨((Blk.at_new rfl rfl).alloc _).alloc _, (blk_two w _ _ _).alloc _⟩
theorem Rw.off_setJ {α : Type} {K : Kind α} {w0 w : World} {v : Value} {xs : List α} {jb rb : Nat} {x0 x1 x2 x3 x4 x5 : Value} (h : Rw K (fun k => w0.heap.size ≤ k ∧ k ≠ jb ∧ k ≠ rb) w v xs) : Rw K (fun k => w0.heap.size ≤ k ∧ k ≠ jb ∧ k ≠ rb) ((((((w.setCell ⟨rb, 0, none⟩ x0).setCell ⟨rb, 1, none⟩ x1).setCell ⟨rb, 2, none⟩ x2).setCell ⟨rb, 3, none⟩ x3).setCell ⟨rb, 4, none⟩ x4).setCell ⟨rb, 5, none⟩ x5) v xs :=
  (((((h.off_set _ _ fun _ hk => hk.2.2).off_set _ _ fun _ hk => hk.2.2).off_set _ _ fun _ hk => hk.2.2).off_set _ _ fun _ hk => hk.2.2).off_set _ _ fun _ hk => hk.2.2).off_set _ _ fun _ hk => hk.2.2
theorem Bytes.off_setJ {w0 w : World} {v : Value} {bs : List UInt8} {jb rb : Nat} {x0 x1 x2 x3 x4 x5 : Value} (h : Bytes (fun k => w0.heap.size ≤ k ∧ k ≠ jb ∧ k ≠ rb) w v bs) : Bytes (fun k => w0.heap.size ≤ k ∧ k ≠ jb ∧ k ≠ rb) ((((((w.setCell ⟨rb, 0, none⟩ x0).setCell ⟨rb, 1, none⟩ x1).setCell ⟨rb, 2, none⟩ x2).setCell ⟨rb, 3, none⟩ x3).setCell ⟨rb, 4, none⟩ x4).setCell ⟨rb, 5, none⟩ x5) v bs :=
  (((((h.off_set _ _ fun _ hk => hk.2.2).off_set _ _ fun _ hk => hk.2.2).off_set _ _ fun _ hk => hk.2.2).off_set _ _ fun _ hk => hk.2.2).off_set _ _ fun _ hk => hk.2.2).off_set _ _ fun _ hk => hk.2.2
/-- The middle: the job has its upper files. -/
def JMid (v : Ver) (lv : Value) (s : Stp) (b1 b2 rb jb i : Nat) (w0 wx : World) : Prop :=
  ∃ u, JAt b1 b2 rb jb v lv s (jobC (i : Int) u (.slice none 0 0) (.slice none 0 0) (.slice none 0 0) false) w0 wx ∧ Rw filK (fun k => w0.heap.size ≤ k ∧ k ≠ jb ∧ k ≠ rb) wx u (jUp v i)

set_option maxRecDepth 100000 in
set_option maxHeartbeats 16000000 in
theorem next_any (F : Nat → Prop) (v : Ver) (s : Stp) (lv : Value) (w : World) (h : Rw (rowK filK) F w lv v.levels) (hw : v.wf) (hfew : cntTo v.levels v.levels.length ≤ 1000000) :
    Calls Try.prog 13 #[.agg (verCells v lv).toArray, .agg (stpCells s).toArray] w (NextPost v s w) := by
  have HMA := Lib.hid (fun w' (hb : Below w.heap.size w w') => may_any F v s lv w' (h.below hb) hw hfew)
  have HWO := Lib.hid (fun (h0 : mayW v s = 0) w' (hb : Below w.heap.size w w') => worst_any F v s lv w' (h.below hb) hw (mayW_ok h0).1 (mayW_ok h0).2)
  have HGA := Lib.hid (fun (h0 : mayW v s = 0) (h1 : 0 < (lat v.levels 0).length) w' (hb : Below w.heap.size w w') => gathered_any F v lv w' (h.below hb) hw (mayW_ok h0).1 h1)
  have HOV := Lib.hid (fun (lev : Int) (hlev : i64In lev) w' (hb : Below w.heap.size w w') (ls ms : List UInt8) (q1 q2 : Value) (L M : Nat → Prop) (g1 : Bytes L w' q1 ls) (g2 : Bytes M w' q2 ms) => overlap_any F L M v lv lev ls ms q1 q2 w' (h.below hb) hw hfew hlev g1 g2)
  have HDE := Lib.hid (fun (lev : Int) (hlev : i64In lev) w' (hb : Below w.heap.size w w') (ls ms : List UInt8) (q1 q2 : Value) (L M : Nat → Prop) (g1 : Bytes L w' q1 ls) (g2 : Bytes M w' q2 ms) => deepest_any F L M v lv lev ls ms q1 q2 w' (h.below hb) hw hfew hlev g1 g2)
  have HNW : Hid (nextW v s = if mayW v s ≠ 0 then mayW v s else if (worstTo v s 5).2 < 100 then 6 else 0) := rfl
  have HJ0 : Hid (nextW v s = 0 → 0 < (lat v.levels (jLev v s)).length ∧ jLev v s < 4 ∧ mayW v s = 0 ∧ 100 ≤ (worstTo v s 5).2) := jLev_ok
  have HJO : Hid (nextW v s = 0 → 0 < (lat v.levels (jLev v s)).length ∧ jLev v s < 4 ∧ mayW v s = 0 ∧ 100 ≤ (worstTo v s 5).2) := jLev_ok
  obtain ⟨xa, ca, rfl⟩ := h.isSlice
  clear h hw hfew
  have HJL : Hid (jLev v s = (worstTo v s 5).1) := rfl
  obtain ⟨m, hm⟩ : ∃ m, v.levels.length = m := ⟨_, rfl⟩
  have HM := Lib.hid hm
  rw [hm] at HMA HWO HGA HOV HDE ⊢
  clear hm
  unfold verCells at HMA HWO HGA HOV HDE ⊢
  unfold stpCells at HMA HWO ⊢
  go_enter Try.func13, Try.ntmps13
  go_upto_region 1 with fail
  refine wp_gen fun w1 hw1 => ?_
  have HX1 : Hid (Boxed w1 w.heap.size (w.heap.size + 1) v (.slice xa m ca) s) := by rw [hw1]; exact boxed_three _ _ _ _ _
  have HR1 : Hid (Blk w1 (w.heap.size + 1 + 1) job0.toArray 36) := by rw [hw1]; exact heap_three_2 _ _ _ _
  have HW1 : Hid (Below w.heap.size w w1) := by rw [hw1]; exact below_three _ _ _ _
  clear hw1
  obtain ⟨b1, hb1⟩ : ∃ b, w.heap.size = b := ⟨_, rfl⟩
  obtain ⟨b2, hb2⟩ : ∃ b, w.heap.size + 1 = b := ⟨_, rfl⟩
  obtain ⟨rb, hrb⟩ : ∃ b, w.heap.size + 1 + 1 = b := ⟨_, rfl⟩
  have HNE : Hid (rb ≠ b1 ∧ rb ≠ b2 ∧ w.heap.size ≤ rb) := ⟨by omega, by omega, by omega⟩
  rw [hrb] at HR1 ⊢
  rw [hb2] at HX1 ⊢
  rw [hb1] at HX1
  rw [hb1]
  clear hb1 hb2 hrb
  obtain ⟨x0, x1, x2, x3, x4, x5, x6⟩ := HX1.out.cells
  go_wp2_with fail
  clear x0 x1 x2 x3 x4 x5 x6
  refine Calls.mono (HMA.out _ HW1.out) ?_
  rintro _ w2 ⟨rfl, hb⟩
  have HX2 := Lib.hid (HX1.out.below hb)
  have HR2 := Lib.hid (HR1.out.below hb HR1.out.lt)
  have HW2 : Hid (Below w.heap.size w w2) := HW1.out.trans (hb.mono HW1.out.size)
  clear hb HX1 HR1 HW1 HMA
  obtain ⟨ck, hck⟩ : ∃ c, mayW v s = c := ⟨_, rfl⟩
  rw [hck] at HWO HGA HNW HJO ⊢
  clear hck
  by_cases hc0 : ck = 0
  case neg =>
    have g0 : (ck == 0) = false := by simpa using hc0
    have g1 : (ck != 0) = true := by simpa using hc0
    have HF : Hid (nextW v s = ck) := by show _ = _; rw [HNW.out, if_pos hc0]
    have HN0 : Hid (ck ≠ 0) := hc0
    clear hc0
    obtain ⟨z0, z1, z2, z3, z4, z5⟩ := job0_cells HR2.out
    have f0 := HR2.out.free 0
    have f1 := HR2.out.free 1
    have f2 := HR2.out.free 2
    have f3 := HR2.out.free 3
    have f4 := HR2.out.free 4
    have f5 := HR2.out.free 5
    go_wp2_with fail
    refine bodyPost_ret (results_cell_tmp1 (p := 4) (t := 5) rfl _ _ rb 36 job0.toArray _ rfl (job0_set HR2.out) Try.underlying36 rfl (by kernel_rfl)) rfl ?_
    refine ⟨fun _ => by rw [HF.out]; rfl, fun e => absurd (HF.out.symm.trans e) HN0.out, below_setJ HW2.out HNE.out.2.2⟩
  subst hc0
  obtain ⟨x0, x1, x2, x3, x4, x5, x6⟩ := HX2.out.cells
  go_wp2_with fail
  clear x0 x1 x2 x3 x4 x5 x6
  refine Calls.mono (HWO.out trivial _ HW2.out) ?_
  rintro _ w3 ⟨rfl, hb⟩
  have HX3 := Lib.hid (HX2.out.below hb)
  have HR3 := Lib.hid (HR2.out.below hb HR2.out.lt)
  have HW3 : Hid (Below w.heap.size w w3) := HW2.out.trans (hb.mono HW2.out.size)
  clear hb HX2 HR2 HW2 HWO
  obtain ⟨i, hi⟩ : ∃ c, (worstTo v s 5).1 = c := ⟨_, rfl⟩
  obtain ⟨sc, hsc⟩ : ∃ c, (worstTo v s 5).2 = c := ⟨_, rfl⟩
  rw [hsc] at HNW HJO ⊢
  rw [hi] at HJL ⊢
  clear hi hsc
  by_cases hc0 : sc < 100
  · have HF : Hid (nextW v s = 6) := by show _ = _; rw [HNW.out, if_neg (by simp), if_pos hc0]
    obtain ⟨z0, z1, z2, z3, z4, z5⟩ := job0_cells HR3.out
    have f0 := HR3.out.free 0
    have f1 := HR3.out.free 1
    have f2 := HR3.out.free 2
    have f3 := HR3.out.free 3
    have f4 := HR3.out.free 4
    have f5 := HR3.out.free 5
    go_wp2_with fail
    refine bodyPost_ret (results_cell_tmp1 (p := 4) (t := 5) rfl _ _ rb 36 job0.toArray _ rfl (job0_set HR3.out) Try.underlying36 rfl (by kernel_rfl)) rfl ?_
    refine ⟨fun _ => by rw [HF.out]; rfl, fun e => absurd (HF.out.symm.trans e) (by decide), below_setJ HW3.out HNE.out.2.2⟩
  have HF : Hid (nextW v s = 0) := by show _ = _; rw [HNW.out, if_neg (by simp), if_neg hc0]
  obtain ⟨HN1, HN2, HN3, -⟩ := HJO.out HF.out
  rw [HJL.out] at HN1 HN2
  have HPOS := Lib.hid HN1
  clear HNW HJO HN1 HN3
  go_upto_region 8 with fail
  refine wp_gen fun w4 hw4 => ?_
  have HJ4 : Hid (JAt b1 b2 rb w3.heap.size v (.slice xa m ca) s (jobC (i : Int) (.slice none 0 0) (.slice none 0 0) (.slice none 0 0) (.slice none 0 0) false) w w4) := by
    rw [hw4]
    exact ⟨⟨HX3.out.ver.alloc _, HX3.out.stp.alloc _⟩, HR3.out.alloc _, Blk.at_new rfl rfl, HW3.out.alloc HW3.out.size _, ⟨fun e => by have := HX3.out.ver.lt; omega, fun e => by have := HX3.out.stp.lt; omega, fun e => by have := HR3.out.lt; omega⟩, HW3.out.size, HNE.out.2.2⟩
  clear hw4 HX3 HR3 HW3
  obtain ⟨jb, hjb⟩ : ∃ j, w3.heap.size = j := ⟨_, rfl⟩
  rw [hjb] at HJ4 ⊢
  clear hjb
  have HMOK := Lib.hid (mayW_ok (HJ0.out HF.out).2.2.1)
  have hil : i < v.levels.length := by rw [(good_small HMOK.out.1).1]; omega
  have HLL : Hid ((lat v.levels i).length ≤ 10000) := Nat.le_trans (lev_le_cnt hil) (chkW_good HMOK.out.1).2.2
  have HFU : Hid (overB v (i : Int) [] [] = lat v.levels i) := by
    show _ = _
    unfold overB
    rw [if_pos ⟨HMOK.out.1, by omega, by omega⟩, Int.toNat_natCast, filter_all]
  clear hil HJ0
  go_upto_if 32 with fail
  go_cut [10] from 32 to 43 (fun _x wx => Hid (JMid v (.slice xa m ca) s b1 b2 rb jb i w wx))
  case first =>
    obtain ⟨x0, x1, x2, x3, -, -, -⟩ := HJ4.out.bx.cells
    by_cases h0 : i = 0
    · subst h0
      have HUP : Hid (jUp v 0 = gathL (lat v.levels 0)) := if_pos rfl
      go_wp2_with fail
      clear x0 x1 x2 x3
      refine Calls.mono (HGA.out trivial HPOS.out w4 HJ4.out.bel) ?_
      rintro _ w5 ⟨u, rfl, hu, hb⟩
      have HJ5 := Lib.hid (HJ4.out.below hb)
      have HU5 : Hid (Rw filK (fun k => w.heap.size ≤ k ∧ k ≠ jb ∧ k ≠ rb) w5 u (jUp v 0)) := by show Rw _ _ _ _ _; rw [HUP.out]; exact hu.mono fun k _ hk => ⟨Nat.le_trans HJ4.out.bel.size hk, fun e => by have := HJ4.out.j.lt; omega, fun e => by have := HJ4.out.rz.lt; omega⟩
      obtain ⟨ua, uc, rfl⟩ := HU5.out.isSlice
      clear hu hb HJ4
      have j1 : w5.cell? ⟨jb, 1, none⟩ = some (.slice none 0 0) := HJ5.out.j.cell rfl
      have k1 := HJ5.out.j.free 1
      have HFI : Hid (JMid v (.slice xa m ca) s b1 b2 rb jb 0 w (w5.setCell ⟨jb, 1, none⟩ (.slice ua (jUp v 0).length uc))) := ⟨_, HJ5.out.set 1 _ rfl, HU5.out.off_set _ _ fun k hk => hk.2.1⟩
      clear HJ5 HU5
      rw [HUP.out] at *
      go_wp2_with fail
      go_meet
      exact HFI.out
    · have g0 : ((i : Int) == 0) = false := by simpa using h0
      have HUP : Hid (jUp v i = [minF (lat v.levels i)]) := if_neg h0
      go_wp2_with fail
      clear x0 x1 x2 x3 g0 h0
      refine Calls.mono (HOV.out (i : Int) ⟨by omega, by omega⟩ w4 HJ4.out.bel [] [] _ _ Any Any (Bytes.nil _ _) (Bytes.nil _ _)) ?_
      rintro _ w5 ⟨u, rfl, hu, hb⟩
      have HJ5 := Lib.hid (HJ4.out.below hb)
      rw [HFU.out] at hu
      have HU5 : Hid (Rw filK (fun k => w.heap.size ≤ k ∧ k ≠ jb ∧ k ≠ rb) w5 u (lat v.levels i)) := hu.mono fun k _ hk => ⟨Nat.le_trans HJ4.out.bel.size hk, fun e => by have := HJ4.out.j.lt; omega, fun e => by have := HJ4.out.rz.lt; omega⟩
      clear hu hb HJ4
      obtain ⟨ua, uc, rfl⟩ := HU5.out.isSlice
      go_wp2_with fail
      refine Calls.mono (minfunc_any _ _ _ w5 HU5.out HPOS.out (Nat.le_trans HLL.out (by decide))) ?_
      rintro _ w6 ⟨vl, vm, rfl, hl, hm, hwf, hb⟩
      have HJ6 := Lib.hid (HJ5.out.below hb)
      obtain ⟨la, lc, rfl⟩ := hl.isSlice
      obtain ⟨ma, mc, rfl⟩ := hm.isSlice
      obtain ⟨f, hf⟩ : ∃ f, minF (lat v.levels i) = f := ⟨_, rfl⟩
      rw [hf] at hl hm hwf HUP ⊢
      have HVL := Lib.hid hl
      have HVM := Lib.hid hm
      have HWF := Lib.hid hwf
      have j1 : (w6.alloc (.cells (filCells f (.slice la f.least.length lc) (.slice ma f.most.length mc)).toArray 42)).cell? ⟨jb, 1, none⟩ = some (.slice none 0 0) := (HJ6.out.j.alloc _).cell rfl
      have k1 := (HJ6.out.j.alloc (.cells (filCells f (.slice la f.least.length lc) (.slice ma f.most.length mc)).toArray 42)).free 1
      have HFI : Hid (JMid v (.slice xa m ca) s b1 b2 rb jb i w ((w6.alloc (.cells (filCells f (.slice la f.least.length lc) (.slice ma f.most.length mc)).toArray 42)).setCell ⟨jb, 1, none⟩ (.slice (some ⟨w6.heap.size, 0, none⟩) 1 1))) := by
        have hb7 : Below w6.heap.size w6 (w6.alloc (.cells (filCells f (.slice la f.least.length lc) (.slice ma f.most.length mc)).toArray 42)) := (Below.refl _ _).alloc (Nat.le_refl _) _
        refine ⟨_, (HJ6.out.below hb7).set 1 _ rfl, ?_⟩
        rw [HUP.out]
        refine Rw.off_set ?_ _ _ fun k hk => hk.2.1
        refine (rw_lit (K := filK) (F := fun k => w.heap.size ≤ k ∧ k ≠ jb ∧ k ≠ rb) (n := 1) (xs := [f]) (Blk.at_new rfl rfl) ⟨⟨_, _, rfl, (HVL.out.below hb7).mono fun k _ hk => hk.1, (HVM.out.below hb7).mono fun k _ hk => hk.1, HWF.out⟩, rfl⟩ rfl (by decide)).mono fun k _ hk => ?_
        rcases hk with rfl | hk
        · exact ⟨HJ6.out.bel.size, fun e => by have := HJ6.out.j.lt; omega, fun e => by have := HJ6.out.rz.lt; omega⟩
        · exact hk
      clear hl hm hwf hb hf HJ5 HU5 HJ6 HVL HVM HWF
      unfold filCells at *
      go_wp2_with fail
      go_meet
      exact HFI.out
  case rest =>
    obtain ⟨u, hj, hu⟩ := hcut.out
    have HJ := Lib.hid hj
    have HU := Lib.hid hu
    clear hcut HJ4 hj hu HGA HFU
    have HLOD : Hid (jLo v i = overB v ((i : Int) + 1) (leastOf (jUp v i)) (mostOf (jUp v i))) := rfl
    have HALD : Hid (jAll v i = jUp v i ++ jLo v i) := rfl
    have HBTD : Hid (jBot v i = deepB v ((i : Int) + 1) (leastOf (jAll v i)) (mostOf (jAll v i))) := rfl
    have HEL : Hid ((leastOf (jAll v i)).length ≤ 4096 ∧ (mostOf (jAll v i)).length ≤ 4096) := ends_len (jAll_fine HMOK.out.1 HPOS.out (by omega))
    have HUL : Hid ((jUp v i).length ≤ 10001) := Nat.le_trans (jUp_le v i) (by
      have h5 := (good_small HMOK.out.1).1
      have := Nat.le_trans (lev_le_cnt (ls := v.levels) (i := 0) (by omega)) (chkW_good HMOK.out.1).2.2
      omega)
    have HOL : Hid ((jLo v i).length ≤ 10000) := over_le v _ _ _ HMOK.out.1
    have t1 : (i : Int) < 4 := by omega
    have t2 : 0 ≤ (i : Int) := by omega
    obtain ⟨U, hU⟩ : ∃ x, jUp v i = x := ⟨_, rfl⟩
    rw [hU] at HU HUL HLOD HALD
    obtain ⟨ua, uc, rfl⟩ := HU.out.isSlice
    have j1 : wc.cell? ⟨jb, 1, none⟩ = some (.slice ua U.length uc) := HJ.out.j.cell rfl
    go_wp2_with fail
    clear j1
    refine Calls.mono (bounds_any _ _ U wc HU.out (Nat.le_trans HUL.out (by decide))) ?_
    rintro _ w5 ⟨r1, r2, rfl, hr1, hr2, hb⟩
    have HJ5 := Lib.hid (HJ.out.below hb)
    have HU5 := Lib.hid (HU.out.below hb)
    have HR1 := Lib.hid hr1
    have HR2 := Lib.hid hr2
    obtain ⟨ra, rc, rfl⟩ := hr1.isSlice
    obtain ⟨qa, qc, rfl⟩ := hr2.isSlice
    clear hr1 hr2 hb HJ HU
    obtain ⟨ls, hls⟩ : ∃ x, leastOf U = x := ⟨_, rfl⟩
    obtain ⟨ms, hms⟩ : ∃ x, mostOf U = x := ⟨_, rfl⟩
    rw [hls] at HR1 HLOD ⊢
    rw [hms] at HR2 HLOD ⊢
    clear hls hms
    obtain ⟨x0, x1, x2, x3, -, -, -⟩ := HJ5.out.bx.cells
    go_wp2_with fail
    clear x0 x1 x2 x3
    refine Calls.mono (HOV.out ((i : Int) + 1) ⟨by omega, by omega⟩ w5 HJ5.out.bel ls ms _ _ _ _ HR1.out HR2.out) ?_
    rintro _ w6 ⟨lo, rfl, hlo, hb⟩
    rw [← HLOD.out] at hlo
    have HJ6 := Lib.hid (HJ5.out.below hb)
    have HU6 := Lib.hid (HU5.out.below hb)
    have HO6 : Hid (Rw filK (fun k => w.heap.size ≤ k ∧ k ≠ jb ∧ k ≠ rb) w6 lo (jLo v i)) := hlo.mono fun k _ hk => ⟨Nat.le_trans HJ5.out.bel.size hk, fun e => by have := HJ5.out.j.lt; omega, fun e => by have := HJ5.out.rz.lt; omega⟩
    clear hlo hb HJ5 HU5 HR1 HR2
    obtain ⟨Lo, hLo⟩ : ∃ x, jLo v i = x := ⟨_, rfl⟩
    rw [hLo] at HO6 HOL HALD
    obtain ⟨oa, oc, rfl⟩ := HO6.out.isSlice
    have j2 : w6.cell? ⟨jb, 2, none⟩ = some (.slice none 0 0) := HJ6.out.j.cell rfl
    have k2 := HJ6.out.j.free 2
    go_upto_region 14 with fail
    clear j2 k2
    refine wp_gen fun w7 hw7 => ?_
    have HJ7 : Hid (JAt b1 b2 rb jb v (.slice xa m ca) s (jobC (i : Int) (.slice ua U.length uc) (.slice oa Lo.length oc) (.slice none 0 0) (.slice none 0 0) false) w w7) := by rw [hw7]; exact HJ6.out.set 2 _ rfl
    have HU7 : Hid (Rw filK (fun k => w.heap.size ≤ k ∧ k ≠ jb ∧ k ≠ rb) w7 (.slice ua U.length uc) U) := by rw [hw7]; exact HU6.out.off_set _ _ fun k hk => hk.2.1
    have HO7 : Hid (Rw filK (fun k => w.heap.size ≤ k ∧ k ≠ jb ∧ k ≠ rb) w7 (.slice oa Lo.length oc) Lo) := by rw [hw7]; exact HO6.out.off_set _ _ fun k hk => hk.2.1
    clear hw7 HJ6 HU6 HO6
    have j1 : w7.cell? ⟨jb, 1, none⟩ = some (.slice ua U.length uc) := HJ7.out.j.cell rfl
    have j2 : w7.cell? ⟨jb, 2, none⟩ = some (.slice oa Lo.length oc) := HJ7.out.j.cell rfl
    go_wp2_with fail
    clear j1 j2
    refine calls_gen fun w8 hw8 => ?_
    have hb78 : Below w7.heap.size w7 w8 := by rw [hw8]; exact (Below.refl _ _).alloc (Nat.le_refl _) _
    have HK8 : Hid (Blk w8 w7.heap.size #[.slice ua U.length uc, .slice oa Lo.length oc] 33) := by rw [hw8]; exact Blk.at_new rfl rfl
    have HJ8 := Lib.hid (HJ7.out.below hb78)
    have HU8 := Lib.hid (HU7.out.below hb78)
    have HO8 := Lib.hid (HO7.out.below hb78)
    clear hw8 hb78 HJ7 HU7 HO7
    generalize w7.heap.size = kb at *
    refine Calls.mono (concat_any _ kb _ _ U Lo w8 HK8.out HU8.out HO8.out (by have := HUL.out; have := HOL.out; omega)) ?_
    rintro _ w9 ⟨cc, rfl, hcc, hb⟩
    have HJ9 := Lib.hid (HJ8.out.below hb)
    have HU9 := Lib.hid (HU8.out.below hb)
    have HO9 := Lib.hid (HO8.out.below hb)
    rw [← HALD.out] at hcc
    have HC9 : Hid (Rw filK (fun k => w.heap.size ≤ k ∧ k ≠ jb ∧ k ≠ rb) w9 cc (jAll v i)) := hcc.mono fun k _ hk => hk.elim (fun hk => ⟨Nat.le_trans HJ8.out.bel.size hk, fun e => by have := HJ8.out.j.lt; omega, fun e => by have := HJ8.out.rz.lt; omega⟩) id
    have HAL : Hid ((jAll v i).length ≤ 1000000) := by show _ ≤ _; rw [HALD.out, List.length_append]; have := HUL.out; have := HOL.out; omega
    clear hcc hb HJ8 HU8 HO8 HK8
    obtain ⟨All, hAll⟩ : ∃ x, jAll v i = x := ⟨_, rfl⟩
    rw [hAll] at HC9 HAL HEL HBTD
    obtain ⟨da, dc, rfl⟩ := HC9.out.isSlice
    go_wp2_with fail
    refine Calls.mono (bounds_any _ _ All w9 HC9.out HAL.out) ?_
    rintro _ w10 ⟨r1, r2, rfl, hr1, hr2, hb⟩
    have HJ10 := Lib.hid (HJ9.out.below hb)
    have HU10 := Lib.hid (HU9.out.below hb)
    have HO10 := Lib.hid (HO9.out.below hb)
    have HR1 := Lib.hid hr1
    have HR2 := Lib.hid hr2
    obtain ⟨ra, rc, rfl⟩ := hr1.isSlice
    obtain ⟨qa, qc, rfl⟩ := hr2.isSlice
    clear hr1 hr2 hb HJ9 HU9 HO9 HC9
    obtain ⟨ls2, hls⟩ : ∃ x, leastOf All = x := ⟨_, rfl⟩
    obtain ⟨ms2, hms⟩ : ∃ x, mostOf All = x := ⟨_, rfl⟩
    rw [hls] at HR1 HEL HBTD ⊢
    rw [hms] at HR2 HEL HBTD ⊢
    go_wp2_with fail
    refine Calls.mono (clone_any _ _ ls2 w10 HR1.out (Nat.le_trans HEL.out.1 (by decide))) ?_
    rintro _ w11 ⟨e1, rfl, ho1, hb⟩
    have HJ11 := Lib.hid (HJ10.out.below hb)
    have HU11 := Lib.hid (HU10.out.below hb)
    have HO11 := Lib.hid (HO10.out.below hb)
    have HR11 := Lib.hid (HR1.out.below hb)
    have HR12 := Lib.hid (HR2.out.below hb)
    have HE1 : Hid (Bytes (fun k => w.heap.size ≤ k ∧ k ≠ jb ∧ k ≠ rb) w11 e1 ls2) := (Owned.bytesFrom ho1).mono fun k _ hk => ⟨Nat.le_trans HJ10.out.bel.size hk, fun e => by have := HJ10.out.j.lt; omega, fun e => by have := HJ10.out.rz.lt; omega⟩
    obtain ⟨ea, ec, rfl⟩ := HE1.out.isSlice
    clear ho1 hb HJ10 HU10 HO10 HR1 HR2
    go_wp2_with fail
    refine Calls.mono (clone_any _ _ ms2 w11 HR12.out (Nat.le_trans HEL.out.2 (by decide))) ?_
    rintro _ w12 ⟨e2, rfl, ho2, hb⟩
    have HJ12 := Lib.hid (HJ11.out.below hb)
    have HU12 := Lib.hid (HU11.out.below hb)
    have HO12 := Lib.hid (HO11.out.below hb)
    have HR13 := Lib.hid (HR11.out.below hb)
    have HR14 := Lib.hid (HR12.out.below hb)
    have HE12 := Lib.hid (HE1.out.below hb)
    have HE2 : Hid (Bytes (fun k => w.heap.size ≤ k ∧ k ≠ jb ∧ k ≠ rb) w12 e2 ms2) := (Owned.bytesFrom ho2).mono fun k _ hk => ⟨Nat.le_trans HJ11.out.bel.size hk, fun e => by have := HJ11.out.j.lt; omega, fun e => by have := HJ11.out.rz.lt; omega⟩
    obtain ⟨ga, gc, rfl⟩ := HE2.out.isSlice
    clear ho2 hb HJ11 HU11 HO11 HR11 HR12 HE1
    have j3 : w12.cell? ⟨jb, 3, none⟩ = some (.slice none 0 0) := HJ12.out.j.cell rfl
    have j4 : w12.cell? ⟨jb, 4, none⟩ = some (.slice none 0 0) := HJ12.out.j.cell rfl
    have k3 := HJ12.out.j.free 3
    have k4 := HJ12.out.j.free 4
    go_upto_region 16 with fail
    clear j3 j4 k3 k4
    refine wp_gen fun w13 hw13 => ?_
    have HJ13 : Hid (JAt b1 b2 rb jb v (.slice xa m ca) s (jobC (i : Int) (.slice ua U.length uc) (.slice oa Lo.length oc) (.slice ea ls2.length ec) (.slice ga ms2.length gc) false) w w13) := by rw [hw13]; exact (HJ12.out.set (jc' := jobC (i : Int) (.slice ua U.length uc) (.slice oa Lo.length oc) (.slice ea ls2.length ec) (.slice none 0 0) false) 3 _ rfl).set 4 _ rfl
    have HU13 : Hid (Rw filK (fun k => w.heap.size ≤ k ∧ k ≠ jb ∧ k ≠ rb) w13 (.slice ua U.length uc) U) := by rw [hw13]; exact (HU12.out.off_set _ _ fun k hk => hk.2.1).off_set _ _ fun k hk => hk.2.1
    have HO13 : Hid (Rw filK (fun k => w.heap.size ≤ k ∧ k ≠ jb ∧ k ≠ rb) w13 (.slice oa Lo.length oc) Lo) := by rw [hw13]; exact (HO12.out.off_set _ _ fun k hk => hk.2.1).off_set _ _ fun k hk => hk.2.1
    have HR15 : Hid (Bytes (fun k => w.heap.size ≤ k ∧ k ≠ jb ∧ k ≠ rb) w13 (.slice ra ls2.length rc) ls2) := by rw [hw13]; exact (HR13.out.off_set _ _ fun k hk => hk.2.1).off_set _ _ fun k hk => hk.2.1
    have HR16 : Hid (Bytes (fun k => w.heap.size ≤ k ∧ k ≠ jb ∧ k ≠ rb) w13 (.slice qa ms2.length qc) ms2) := by rw [hw13]; exact (HR14.out.off_set _ _ fun k hk => hk.2.1).off_set _ _ fun k hk => hk.2.1
    have HE13 : Hid (Bytes (fun k => w.heap.size ≤ k ∧ k ≠ jb ∧ k ≠ rb) w13 (.slice ea ls2.length ec) ls2) := by rw [hw13]; exact (HE12.out.off_set _ _ fun k hk => hk.2.1).off_set _ _ fun k hk => hk.2.1
    have HE14 : Hid (Bytes (fun k => w.heap.size ≤ k ∧ k ≠ jb ∧ k ≠ rb) w13 (.slice ga ms2.length gc) ms2) := by rw [hw13]; exact (HE2.out.off_set _ _ fun k hk => hk.2.1).off_set _ _ fun k hk => hk.2.1
    clear hw13 HJ12 HU12 HO12 HR13 HR14 HE12 HE2
    obtain ⟨x0, x1, x2, x3, -, -, -⟩ := HJ13.out.bx.cells
    go_wp2_with fail
    clear x0 x1 x2 x3
    refine Calls.mono (HDE.out ((i : Int) + 1) ⟨by omega, by omega⟩ w13 HJ13.out.bel ls2 ms2 _ _ _ _ HR15.out HR16.out) ?_
    rintro _ w14 ⟨rfl, hb⟩
    rw [← HBTD.out]
    have HJ14 := Lib.hid (HJ13.out.below hb)
    have HU14 := Lib.hid (HU13.out.below hb)
    have HO14 := Lib.hid (HO13.out.below hb)
    have HE15 := Lib.hid (HE13.out.below hb)
    have HE16 := Lib.hid (HE14.out.below hb)
    clear hb HJ13 HU13 HO13 HR15 HR16 HE13 HE14
    obtain ⟨bt, hbt⟩ : ∃ x, jBot v i = x := ⟨_, rfl⟩
    rw [hbt]
    have j5 : w14.cell? ⟨jb, 5, none⟩ = some (.bool false) := HJ14.out.j.cell rfl
    have k5 := HJ14.out.j.free 5
    go_upto_region 17 with fail
    clear j5 k5
    refine wp_gen fun w15 hw15 => ?_
    have HJ15 : Hid (JAt b1 b2 rb jb v (.slice xa m ca) s (jobC (i : Int) (.slice ua U.length uc) (.slice oa Lo.length oc) (.slice ea ls2.length ec) (.slice ga ms2.length gc) bt) w w15) := by rw [hw15]; exact HJ14.out.set 5 _ rfl
    have HU15 : Hid (Rw filK (fun k => w.heap.size ≤ k ∧ k ≠ jb ∧ k ≠ rb) w15 (.slice ua U.length uc) U) := by rw [hw15]; exact HU14.out.off_set _ _ fun k hk => hk.2.1
    have HO15 : Hid (Rw filK (fun k => w.heap.size ≤ k ∧ k ≠ jb ∧ k ≠ rb) w15 (.slice oa Lo.length oc) Lo) := by rw [hw15]; exact HO14.out.off_set _ _ fun k hk => hk.2.1
    have HE17 : Hid (Bytes (fun k => w.heap.size ≤ k ∧ k ≠ jb ∧ k ≠ rb) w15 (.slice ea ls2.length ec) ls2) := by rw [hw15]; exact HE15.out.off_set _ _ fun k hk => hk.2.1
    have HE18 : Hid (Bytes (fun k => w.heap.size ≤ k ∧ k ≠ jb ∧ k ≠ rb) w15 (.slice ga ms2.length gc) ms2) := by rw [hw15]; exact HE16.out.off_set _ _ fun k hk => hk.2.1
    clear hw15 HJ14 HU14 HO14 HE15 HE16
    have j0 : w15.cell? ⟨jb, 0, none⟩ = some (.int .i64 (i : Int)) := HJ15.out.j.cell rfl
    have j1 : w15.cell? ⟨jb, 1, none⟩ = some (.slice ua U.length uc) := HJ15.out.j.cell rfl
    have j2 : w15.cell? ⟨jb, 2, none⟩ = some (.slice oa Lo.length oc) := HJ15.out.j.cell rfl
    have j3 : w15.cell? ⟨jb, 3, none⟩ = some (.slice ea ls2.length ec) := HJ15.out.j.cell rfl
    have j4 : w15.cell? ⟨jb, 4, none⟩ = some (.slice ga ms2.length gc) := HJ15.out.j.cell rfl
    have j5 : w15.cell? ⟨jb, 5, none⟩ = some (.bool bt) := HJ15.out.j.cell rfl
    obtain ⟨z0, z1, z2, z3, z4, z5⟩ := job0_cells HJ15.out.rz
    have f0 := HJ15.out.rz.free 0
    have f1 := HJ15.out.rz.free 1
    have f2 := HJ15.out.rz.free 2
    have f3 := HJ15.out.rz.free 3
    have f4 := HJ15.out.rz.free 4
    have f5 := HJ15.out.rz.free 5
    go_wp2_with fail
    clear j0 j1 j2 j3 j4 j5 z0 z1 z2 z3 z4 z5 f0 f1 f2 f3 f4 f5
    refine bodyPost_ret (results_cell_tmp1 (p := 4) (t := 5) rfl _ _ rb 36 (jobC (i : Int) (.slice ua U.length uc) (.slice oa Lo.length oc) (.slice ea ls2.length ec) (.slice ga ms2.length gc) bt).toArray _ rfl ((((((HJ15.out.rz.set 0 _).set 1 _).set 2 _).set 3 _).set 4 _).set 5 _) Try.underlying36 rfl (by kernel_rfl)) rfl ?_
    refine ⟨fun e => absurd HF.out e, fun _ => ?_, below_setJ HJ15.out.bel HNE.out.2.2⟩
    rw [HJL.out, hU, hLo, hAll, hbt, hls, hms]
    exact ⟨_, _, _, _, rfl, (HU15.out.off_setJ).mono fun k _ hk => hk.1, (HO15.out.off_setJ).mono fun k _ hk => hk.1, (HE17.out.off_setJ).mono fun k _ hk => hk.1, (HE18.out.off_setJ).mono fun k _ hk => hk.1⟩
end Go.Proofs.Ytkcohhldmhdcfaa
