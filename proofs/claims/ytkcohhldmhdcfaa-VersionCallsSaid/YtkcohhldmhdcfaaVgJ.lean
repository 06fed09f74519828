/- The law VersionCalls: its walk. -/
import Derived.Test.YtkcohhldmhdcfaaVgI
import Derived.Test.YtkcohhldmhdcfaaVeZb
namespace Go.Proofs.Ytkcohhldmhdcfaa
open Go.RowKit

theorem applyW_small (v : Ver) (e : Edi) : (applyW v e).1.levels.length ≤ 1000000 ∧ ∀ i, i < (applyW v e).1.levels.length → (lat (applyW v e).1.levels i).length ≤ 1000000 := by
  have hz : ∀ c : Int, ((zeroV, c) : Ver × Int).1.levels.length ≤ 1000000 ∧ ∀ i, i < ((zeroV, c) : Ver × Int).1.levels.length → (lat ((zeroV, c) : Ver × Int).1.levels i).length ≤ 1000000 := fun c => ⟨Nat.zero_le _, fun i hi => absurd hi (Nat.not_lt_zero _)⟩
  by_cases hc : chkW v = 0
  · cases hd : dropsLs v.levels e.drops with
    | none => rw [applyW_none hc hd]; exact hz _
    | some ls =>
      by_cases hcl : Clash ls e.adds
      · rw [applyW_clash hc hd hcl]; exact hz _
      · by_cases ho : OddLev e.adds
        · rw [applyW_odd hc hd hcl ho]; exact hz _
        · by_cases hb : chkW (newV ls e) = 0
          · rw [applyW_ok hc hd hcl ho hb]
            have h := good_small hb
            exact ⟨by show (newV ls e).levels.length ≤ _; rw [h.1]; decide, fun i hi => Nat.le_trans (h.2.1 i hi) (by decide)⟩
          · rw [applyW_bad hc hd hcl ho hb]; exact hz _
  · rw [applyW_chk hc]; exact hz _
theorem wholeW_small (v : Ver) : (wholeW v).1.drops.length ≤ 1000000 ∧ (wholeW v).1.adds.length ≤ 1000000 := by
  by_cases hc : chkW v = 0
  · rw [wholeW_ok hc]
    have h := good_small hc
    exact ⟨Nat.zero_le _, Nat.le_trans (wAdds_len (n := 10000) (fun i hi => h.2.1 i (by rw [h.1]; exact hi)) 5 (Nat.le_refl _)) (by decide)⟩
  · rw [wholeW_bad hc]
    exact ⟨Nat.zero_le _, Nat.zero_le _⟩
theorem overB_small (v : Ver) (lev : Int) (ls ms : List UInt8) : (overB v lev ls ms).length ≤ 1000000 := by
  by_cases hc : chkW v = 0
  · exact Nat.le_trans (over_le v lev ls ms hc) (by decide)
  · rw [over_bad hc]; exact Nat.zero_le _
theorem ver_cells {w : World} {b : Nat} {T : TypeId} {v : Ver} {lv : Value} (h : Blk w b (verCells v lv).toArray T) : w.cell? ⟨b, 0, none⟩ = some lv ∧ w.cell? ⟨b, 1, none⟩ = some (.int .u64 v.next) ∧ w.cell? ⟨b, 2, none⟩ = some (.int .u64 v.seq) ∧ w.cell? ⟨b, 3, none⟩ = some (.int .u64 v.log) := ⟨h.cell rfl, h.cell rfl, h.cell rfl, h.cell rfl⟩
theorem edi_cells {w : World} {b : Nat} {T : TypeId} {e : Edi} {dv av : Value} (h : Blk w b (ediCells e dv av).toArray T) : w.cell? ⟨b, 0, none⟩ = some dv ∧ w.cell? ⟨b, 1, none⟩ = some av ∧ w.cell? ⟨b, 2, none⟩ = some (.int .u64 e.next) ∧ w.cell? ⟨b, 3, none⟩ = some (.int .u64 e.seq) ∧ w.cell? ⟨b, 4, none⟩ = some (.int .u64 e.log) := ⟨h.cell rfl, h.cell rfl, h.cell rfl, h.cell rfl, h.cell rfl⟩

set_option maxRecDepth 100000 in
set_option maxHeartbeats 8000000 in
theorem versionCalls_any (F G L M : Nat → Prop) (v : Ver) (e : Edi) (lv dv av : Value) (level : Int) (least most : List UInt8) (ql qm : Value) (w : World) (h : Rw (rowK filK) F w lv v.levels) (hw : v.wf) (hle : v.levels.length ≤ 140737488355328) (hn : ∀ i, i < v.levels.length → (lat v.levels i).length ≤ 140737488355328)
    (he : EdiAt G w e dv av) (hd : e.drops.length ≤ 140737488355328) (ha : e.adds.length ≤ 140737488355328) (hk : ∀ a ∈ e.adds, a.2.least.length ≤ 140737488355328 ∧ a.2.most.length ≤ 140737488355328) (hlev : i64In level) (hql : Bytes L w ql least) (hqm : Bytes M w qm most) :
    Calls Try.prog 7 #[.agg (verCells v lv).toArray, .agg (ediCells e dv av).toArray, .int .i64 level, ql, qm] w fun x w' => x = .returned (.bool true) ∧ Below w.heap.size w w' := by
  have HSM := Lib.hid (fun w' (hb : Below w.heap.size w w') => vsmall_any F v lv w' (h.below hb) hle hn)
  have HSE := Lib.hid (fun w' (hb : Below w.heap.size w w') => smallEdit_any G e dv av w' (he.below hb) hd ha hk)
  have HAP := Lib.hid (fun (hc : cntTo v.levels v.levels.length ≤ 100) (h1 : e.drops.length ≤ 100) (h2 : e.adds.length ≤ 100) (h3 : ∀ a ∈ e.adds, a.2.least.length ≤ 10000 ∧ a.2.most.length ≤ 10000) w' (hb : Below w.heap.size w w') => apply_any F G v e lv dv av w' (h.below hb) hw (by omega) (he.below hb) (by omega) (by omega) (fun a ha => ⟨Nat.le_trans (h3 a ha).1 (by decide), Nat.le_trans (h3 a ha).2 (by decide)⟩))
  have HRA := Lib.hid (fun (hc : cntTo v.levels v.levels.length ≤ 100) (h1 : e.drops.length ≤ 100) (h2 : e.adds.length ≤ 100) (h3 : ∀ a ∈ e.adds, a.2.least.length ≤ 10000 ∧ a.2.most.length ≤ 10000) w' (hb : Below w.heap.size w w') => rapply_any F G v e lv dv av w' (h.below hb) hw hc (he.below hb) h1 h2 (fun a ha => ⟨Nat.le_trans (h3 a ha).1 (by decide), Nat.le_trans (h3 a ha).2 (by decide)⟩))
  have HVW := Lib.hid (fun (hc : cntTo v.levels v.levels.length ≤ 100) w' (hb : Below w.heap.size w w') => vwhole_any F v lv w' (h.below hb) hw hc)
  have HRW := Lib.hid (fun (hc : cntTo v.levels v.levels.length ≤ 100) w' (hb : Below w.heap.size w w') => rwhole_any F v lv w' (h.below hb) hw hc)
  have HCK := Lib.hid (fun (hc : cntTo v.levels v.levels.length ≤ 100) w' (hb : Below w.heap.size w w') => check_any F v lv w' (h.below hb) hw (by omega))
  have HRC := Lib.hid (fun (hc : cntTo v.levels v.levels.length ≤ 100) w' (hb : Below w.heap.size w w') => rcheck_any F v lv w' (h.below hb) hw (by omega))
  have HOV := Lib.hid (fun (hc : cntTo v.levels v.levels.length ≤ 100) w' (hb : Below w.heap.size w w') => overlap_any F L M v lv level least most ql qm w' (h.below hb) hw (by omega) hlev (hql.below hb) (hqm.below hb))
  have HRO := Lib.hid (fun (hc : cntTo v.levels v.levels.length ≤ 100) w' (hb : Below w.heap.size w w') => roverlap_any F L M v lv level least most ql qm w' (h.below hb) hw hc (hql.below hb) (hqm.below hb))
  have HBY := Lib.hid (fun (hc : cntTo v.levels v.levels.length ≤ 100) w' (hb : Below w.heap.size w w') => vbytes_any F v lv level w' (h.below hb) hw (by omega) hlev)
  have HRB := Lib.hid (fun (hc : cntTo v.levels v.levels.length ≤ 100) w' (hb : Below w.heap.size w w') => rlbytes_any F v lv level w' (h.below hb) hw hc)
  have HDE := Lib.hid (fun (hc : cntTo v.levels v.levels.length ≤ 100) w' (hb : Below w.heap.size w w') => deepest_any F L M v lv level least most ql qm w' (h.below hb) hw (by omega) hlev (hql.below hb) (hqm.below hb))
  have HRD := Lib.hid (fun (hc : cntTo v.levels v.levels.length ≤ 100) w' (hb : Below w.heap.size w w') => rdeepest_any F L M v lv level least most ql qm w' (h.below hb) hw hc (hql.below hb) (hqm.below hb))
  obtain ⟨xa, ca, rfl⟩ := h.isSlice
  obtain ⟨da, dc, rfl⟩ := he.drops.isSlice
  obtain ⟨aa, ac, rfl⟩ := he.adds.isSlice
  obtain ⟨la, lc, rfl⟩ := hql.isSlice
  obtain ⟨ma, mc, rfl⟩ := hqm.isSlice
  clear h he hql hqm hw hle hn hd ha hk hlev
  have HAS := Lib.hid (applyW_small v e)
  have HWS := Lib.hid (wholeW_small v)
  have HOS := Lib.hid (overB_small v level least most)
  obtain ⟨m, hm⟩ : ∃ m, v.levels.length = m := ⟨_, rfl⟩
  have HM := Lib.hid hm
  rw [hm] at HSM HAP HRA HVW HRW HCK HRC HOV HRO HBY HRB HDE HRD ⊢
  clear hm
  obtain ⟨R, hR⟩ : ∃ r, applyW v e = r := ⟨_, rfl⟩
  obtain ⟨W0, hW0⟩ : ∃ r, wholeW v = r := ⟨_, rfl⟩
  obtain ⟨OB, hOB⟩ : ∃ r, overB v level least most = r := ⟨_, rfl⟩
  obtain ⟨ck, hck⟩ : ∃ r, chkW v = r := ⟨_, rfl⟩
  obtain ⟨by0, hby⟩ : ∃ r, bytesOfLev v level = r := ⟨_, rfl⟩
  obtain ⟨dp, hdp⟩ : ∃ r, deepB v level least most = r := ⟨_, rfl⟩
  rw [hR] at HAP HRA HAS
  rw [hW0] at HVW HRW HWS
  rw [hOB] at HOV HRO HOS
  rw [hck] at HCK HRC
  rw [hby] at HBY HRB
  rw [hdp] at HDE HRD
  obtain ⟨A, x⟩ := R
  obtain ⟨E, y⟩ := W0
  clear hR hW0 hOB hck hby hdp
  unfold verCells at HSM HAP HRA HVW HRW HCK HRC HOV HRO HBY HRB HDE HRD ⊢
  unfold ediCells at HSE HAP HRA ⊢
  obtain ⟨nd, hnd⟩ : ∃ n, e.drops.length = n := ⟨_, rfl⟩
  obtain ⟨na, hna⟩ : ∃ n, e.adds.length = n := ⟨_, rfl⟩
  have HND := Lib.hid hnd
  have HNA := Lib.hid hna
  rw [hnd, hna] at HSE HAP HRA ⊢
  clear hnd hna
  go_enter Try.func7, Try.ntmps7
  go_upto_region 1 with fail
  refine wp_gen fun w1 hw1 => ?_
  have HX1 : Hid (Blk w1 w.heap.size (verCells v (.slice xa m ca)).toArray 25) := by rw [hw1]; exact (Blk.at_new rfl rfl).alloc _
  have HY1 : Hid (Blk w1 (w.heap.size + 1) (ediCells e (.slice da nd dc) (.slice aa na ac)).toArray 57) := by rw [hw1]; exact blk_two _ _ _ _
  have HW1 : Hid (Below w.heap.size w w1) := by rw [hw1]; exact below_two _ _ _
  clear hw1
  obtain ⟨b1, hb1⟩ : ∃ b, w.heap.size = b := ⟨_, rfl⟩
  obtain ⟨b2, hb2⟩ : ∃ b, w.heap.size + 1 = b := ⟨_, rfl⟩
  rw [hb2] at HY1 ⊢
  rw [hb1] at HX1 ⊢
  have HBB := Lib.hid hb1
  clear hb1 hb2
  go_wp2_with fail
  refine Calls.mono (vlives_any w1) ?_
  rintro _ w2 ⟨rfl, hb⟩
  have HX2 := Lib.hid (HX1.out.below hb HX1.out.lt)
  have HY2 := Lib.hid (HY1.out.below hb HY1.out.lt)
  have HW2 : Hid (Below w.heap.size w w2) := HW1.out.trans (hb.mono HW1.out.size)
  clear hb HX1 HY1 HW1
  obtain ⟨x0, x1, x2, x3⟩ := ver_cells HX2.out
  go_wp2_with fail
  clear x0 x1 x2 x3
  refine Calls.mono (HSM.out _ HW2.out) ?_
  rintro _ w3 ⟨sm, rfl, hsm, hb⟩
  have HX3 := Lib.hid (HX2.out.below hb HX2.out.lt)
  have HY3 := Lib.hid (HY2.out.below hb HY2.out.lt)
  have HW3 : Hid (Below w.heap.size w w3) := HW2.out.trans (hb.mono HW2.out.size)
  clear hb HX2 HY2 HW2 HSM
  cases sm with
  | false =>
    clear hsm
    go_wp2_with fail
    go_ret
    exact ⟨rfl, by first | exact HW3.out | (rw [← HBB.out]; exact HW3.out)⟩
  | true =>
  obtain ⟨-, hcn⟩ := hsm rfl
  rw [HM.out] at hcn
  have HVW := Lib.hid (HVW.out hcn)
  have HRW := Lib.hid (HRW.out hcn)
  have HCK := Lib.hid (HCK.out hcn)
  have HRC := Lib.hid (HRC.out hcn)
  have HOV := Lib.hid (HOV.out hcn)
  have HRO := Lib.hid (HRO.out hcn)
  have HBY := Lib.hid (HBY.out hcn)
  have HRB := Lib.hid (HRB.out hcn)
  have HDE := Lib.hid (HDE.out hcn)
  have HRD := Lib.hid (HRD.out hcn)
  have HAP := Lib.hid (HAP.out hcn)
  have HRA := Lib.hid (HRA.out hcn)
  clear hsm hcn
  obtain ⟨y0, y1, y2, y3, y4⟩ := edi_cells HY3.out
  go_wp2_with fail
  clear y0 y1 y2 y3 y4
  refine Calls.mono (HSE.out _ HW3.out) ?_
  rintro _ w4 ⟨sm, rfl, hsm, hb⟩
  have HX4 := Lib.hid (HX3.out.below hb HX3.out.lt)
  have HY4 := Lib.hid (HY3.out.below hb HY3.out.lt)
  have HW4 : Hid (Below w.heap.size w w4) := HW3.out.trans (hb.mono HW3.out.size)
  clear hb HX3 HY3 HW3 HSE
  cases sm with
  | false =>
    clear hsm
    go_wp2_with fail
    go_ret
    exact ⟨rfl, by first | exact HW4.out | (rw [← HBB.out]; exact HW4.out)⟩
  | true =>
  obtain ⟨s1, s2, s3⟩ := hsm rfl
  rw [HND.out] at s1
  rw [HNA.out] at s2
  have HAP := Lib.hid (HAP.out s1 s2 s3)
  have HRA := Lib.hid (HRA.out s1 s2 s3)
  clear hsm s1 s2 s3
  obtain ⟨xs, hxs⟩ : ∃ z, RowKit.wrap64 ((least.length : Int) + (most.length : Int)) = z := ⟨_, rfl⟩
  by_cases hxl : 10000 < xs
  · go_wp2_with fail
    go_ret
    exact ⟨rfl, by first | exact HW4.out | (rw [← HBB.out]; exact HW4.out)⟩
  obtain ⟨x0, x1, x2, x3⟩ := ver_cells HX4.out
  obtain ⟨y0, y1, y2, y3, y4⟩ := edi_cells HY4.out
  go_wp2_with fail
  clear x0 x1 x2 x3 y0 y1 y2 y3 y4 hxl hxs
  refine Calls.mono (HAP.out _ HW4.out) ?_
  intro e5 w5 h5
  obtain ⟨lv1, rfl, hr1, hb⟩ : ∃ lv1, e5 = .returned (.tuple #[.agg (verCells A lv1).toArray, .int .i64 x]) ∧ Rw (rowK filK) (fun k => w4.heap.size ≤ k) w5 lv1 A.levels ∧ Below w4.heap.size w4 w5 := h5
  have HX5 := Lib.hid (HX4.out.below hb HX4.out.lt)
  have HY5 := Lib.hid (HY4.out.below hb HY4.out.lt)
  have HW5 : Hid (Below w.heap.size w w5) := HW4.out.trans (hb.mono HW4.out.size)
  obtain ⟨ra, rc, rfl⟩ := hr1.isSlice
  obtain ⟨nA, hnA⟩ : ∃ n, A.levels.length = n := ⟨_, rfl⟩
  have HNA2 := Lib.hid hnA
  rw [hnA] at hr1 ⊢
  have HR1 := Lib.hid hr1.any
  clear hb hr1 HX4 HY4 HW4 HAP hnA
  unfold verCells
  go_upto_region 6 with fail
  refine wp_gen fun w6 hw6 => ?_
  have hb6 : Below w5.heap.size w5 w6 := by rw [hw6]; exact (Below.refl _ _).alloc (Nat.le_refl _) _
  have HJ16 : Hid (Blk w6 w5.heap.size (verCells A (.slice ra nA rc)).toArray 25) := by rw [hw6]; exact Blk.at_new rfl rfl
  have HX6 := Lib.hid (HX5.out.below hb6 HX5.out.lt)
  have HY6 := Lib.hid (HY5.out.below hb6 HY5.out.lt)
  have HW6 : Hid (Below w.heap.size w w6) := HW5.out.trans (hb6.mono HW5.out.size)
  have HR16 := Lib.hid (HR1.out.below hb6)
  clear hw6 hb6 HX5 HY5 HW5 HR1
  generalize w5.heap.size = j1 at *
  obtain ⟨x0, x1, x2, x3⟩ := ver_cells HX6.out
  obtain ⟨y0, y1, y2, y3, y4⟩ := edi_cells HY6.out
  go_wp2_with fail
  clear x0 x1 x2 x3 y0 y1 y2 y3 y4
  refine Calls.mono (HRA.out _ HW6.out) ?_
  intro e7 w7 h7
  obtain ⟨lv2, rfl, hr2, hb⟩ : ∃ lv2, e7 = .returned (.tuple #[.agg (verCells A lv2).toArray, .int .i64 x]) ∧ Rw (rowK filK) Any w7 lv2 A.levels ∧ Below w6.heap.size w6 w7 := h7
  have HX7 := Lib.hid (HX6.out.below hb HX6.out.lt)
  have HW7 : Hid (Below w.heap.size w w7) := HW6.out.trans (hb.mono HW6.out.size)
  have HJ17 := Lib.hid (HJ16.out.below hb HJ16.out.lt)
  have HR17 := Lib.hid (HR16.out.below hb)
  obtain ⟨rb, rd, rfl⟩ := hr2.isSlice
  rw [HNA2.out] at hr2 ⊢
  have HR27 := Lib.hid hr2
  clear hb hr2 HX6 HY6 HW6 HRA HJ16 HR16
  unfold verCells
  go_upto_region 7 with fail
  refine wp_gen fun w8 hw8 => ?_
  have hb8 : Below w7.heap.size w7 w8 := by rw [hw8]; exact (Below.refl _ _).alloc (Nat.le_refl _) _
  have HJ28 : Hid (Blk w8 w7.heap.size (verCells A (.slice rb nA rd)).toArray 25) := by rw [hw8]; exact Blk.at_new rfl rfl
  have HX8 := Lib.hid (HX7.out.below hb8 HX7.out.lt)
  have HW8 : Hid (Below w.heap.size w w8) := HW7.out.trans (hb8.mono HW7.out.size)
  have HJ18 := Lib.hid (HJ17.out.below hb8 HJ17.out.lt)
  have HR18 := Lib.hid (HR17.out.below hb8)
  have HR28 := Lib.hid (HR27.out.below hb8)
  clear hw8 hb8 HX7 HW7 HJ17 HR17 HR27
  generalize w7.heap.size = j2 at *
  obtain ⟨x0, x1, x2, x3⟩ := ver_cells HX8.out
  go_wp2_with fail
  clear x0 x1 x2 x3
  refine Calls.mono (HVW.out _ HW8.out) ?_
  intro e9 w9 h9
  obtain ⟨dv1, av1, rfl, he1, hb⟩ : ∃ dv1 av1, e9 = .returned (.tuple #[.agg (ediCells E dv1 av1).toArray, .int .i64 y]) ∧ EdiAt Any w9 E dv1 av1 ∧ Below w8.heap.size w8 w9 := h9
  have HX9 := Lib.hid (HX8.out.below hb HX8.out.lt)
  have HW9 : Hid (Below w.heap.size w w9) := HW8.out.trans (hb.mono HW8.out.size)
  have HJ19 := Lib.hid (HJ18.out.below hb HJ18.out.lt)
  have HJ29 := Lib.hid (HJ28.out.below hb HJ28.out.lt)
  have HR19 := Lib.hid (HR18.out.below hb)
  have HR29 := Lib.hid (HR28.out.below hb)
  obtain ⟨ea, ec, rfl⟩ := he1.drops.isSlice
  obtain ⟨fa, fc, rfl⟩ := he1.adds.isSlice
  obtain ⟨nD, hnD⟩ : ∃ n, E.drops.length = n := ⟨_, rfl⟩
  obtain ⟨nE, hnE⟩ : ∃ n, E.adds.length = n := ⟨_, rfl⟩
  have HND2 := Lib.hid hnD
  have HNE2 := Lib.hid hnE
  rw [hnD, hnE] at he1 ⊢
  have HE1 := Lib.hid he1
  clear hb he1 hnD hnE HX8 HW8 HJ18 HJ28 HR18 HR28 HVW
  unfold ediCells
  go_upto_region 8 with fail
  refine wp_gen fun wa hwa => ?_
  have hba : Below w9.heap.size w9 wa := by rw [hwa]; exact (Below.refl _ _).alloc (Nat.le_refl _) _
  have HK1a : Hid (Blk wa w9.heap.size (ediCells E (.slice ea nD ec) (.slice fa nE fc)).toArray 57) := by rw [hwa]; exact Blk.at_new rfl rfl
  have HXa := Lib.hid (HX9.out.below hba HX9.out.lt)
  have HWa : Hid (Below w.heap.size w wa) := HW9.out.trans (hba.mono HW9.out.size)
  have HJ1a := Lib.hid (HJ19.out.below hba HJ19.out.lt)
  have HJ2a := Lib.hid (HJ29.out.below hba HJ29.out.lt)
  have HR1a := Lib.hid (HR19.out.below hba)
  have HR2a := Lib.hid (HR29.out.below hba)
  have HE1a := Lib.hid (HE1.out.below hba)
  clear hwa hba HX9 HW9 HJ19 HJ29 HR19 HR29 HE1
  generalize w9.heap.size = k1 at *
  obtain ⟨x0, x1, x2, x3⟩ := ver_cells HXa.out
  go_wp2_with fail
  clear x0 x1 x2 x3
  refine Calls.mono (HRW.out _ HWa.out) ?_
  intro eb9 wb hb9
  obtain ⟨dv2, av2, rfl, he2, hb⟩ : ∃ dv2 av2, eb9 = .returned (.tuple #[.agg (ediCells E dv2 av2).toArray, .int .i64 y]) ∧ EdiAt Any wb E dv2 av2 ∧ Below wa.heap.size wa wb := hb9
  have HXb := Lib.hid (HXa.out.below hb HXa.out.lt)
  have HWb : Hid (Below w.heap.size w wb) := HWa.out.trans (hb.mono HWa.out.size)
  have HJ1b := Lib.hid (HJ1a.out.below hb HJ1a.out.lt)
  have HJ2b := Lib.hid (HJ2a.out.below hb HJ2a.out.lt)
  have HK1b := Lib.hid (HK1a.out.below hb HK1a.out.lt)
  have HR1b := Lib.hid (HR1a.out.below hb)
  have HR2b := Lib.hid (HR2a.out.below hb)
  have HE1b := Lib.hid (HE1a.out.below hb)
  obtain ⟨eb, ed, rfl⟩ := he2.drops.isSlice
  obtain ⟨fb, fd, rfl⟩ := he2.adds.isSlice
  rw [HND2.out, HNE2.out] at he2 ⊢
  have HE2b := Lib.hid he2
  clear hb he2 HXa HWa HJ1a HJ2a HK1a HR1a HR2a HE1a HRW
  unfold ediCells
  go_upto_region 9 with fail
  refine wp_gen fun wc hwc => ?_
  have hbc : Below wb.heap.size wb wc := by rw [hwc]; exact (Below.refl _ _).alloc (Nat.le_refl _) _
  have HK2c : Hid (Blk wc wb.heap.size (ediCells E (.slice eb nD ed) (.slice fb nE fd)).toArray 57) := by rw [hwc]; exact Blk.at_new rfl rfl
  have HXc := Lib.hid (HXb.out.below hbc HXb.out.lt)
  have HWc : Hid (Below w.heap.size w wc) := HWb.out.trans (hbc.mono HWb.out.size)
  have HJ1c := Lib.hid (HJ1b.out.below hbc HJ1b.out.lt)
  have HJ2c := Lib.hid (HJ2b.out.below hbc HJ2b.out.lt)
  have HK1c := Lib.hid (HK1b.out.below hbc HK1b.out.lt)
  have HR1c := Lib.hid (HR1b.out.below hbc)
  have HR2c := Lib.hid (HR2b.out.below hbc)
  have HE1c := Lib.hid (HE1b.out.below hbc)
  have HE2c := Lib.hid (HE2b.out.below hbc)
  clear hwc hbc HXb HWb HJ1b HJ2b HK1b HR1b HR2b HE1b HE2b
  generalize wb.heap.size = k2 at *
  have HKP : Hid (∀ W, Below wc.heap.size wc W → (W.cell? ⟨b1, 0, none⟩ = some (.slice xa m ca) ∧ W.cell? ⟨b1, 1, none⟩ = some (.int .u64 v.next) ∧ W.cell? ⟨b1, 2, none⟩ = some (.int .u64 v.seq) ∧ W.cell? ⟨b1, 3, none⟩ = some (.int .u64 v.log) ∧ W.cell? ⟨j1, 0, none⟩ = some (.slice ra nA rc) ∧ W.cell? ⟨j1, 1, none⟩ = some (.int .u64 A.next) ∧ W.cell? ⟨j1, 2, none⟩ = some (.int .u64 A.seq) ∧ W.cell? ⟨j1, 3, none⟩ = some (.int .u64 A.log) ∧ W.cell? ⟨j2, 0, none⟩ = some (.slice rb nA rd) ∧ W.cell? ⟨j2, 1, none⟩ = some (.int .u64 A.next) ∧ W.cell? ⟨j2, 2, none⟩ = some (.int .u64 A.seq) ∧ W.cell? ⟨j2, 3, none⟩ = some (.int .u64 A.log) ∧ W.cell? ⟨k1, 0, none⟩ = some (.slice ea nD ec) ∧ W.cell? ⟨k1, 1, none⟩ = some (.slice fa nE fc) ∧ W.cell? ⟨k1, 2, none⟩ = some (.int .u64 E.next) ∧ W.cell? ⟨k1, 3, none⟩ = some (.int .u64 E.seq) ∧ W.cell? ⟨k1, 4, none⟩ = some (.int .u64 E.log) ∧ W.cell? ⟨k2, 0, none⟩ = some (.slice eb nD ed) ∧ W.cell? ⟨k2, 1, none⟩ = some (.slice fb nE fd) ∧ W.cell? ⟨k2, 2, none⟩ = some (.int .u64 E.next) ∧ W.cell? ⟨k2, 3, none⟩ = some (.int .u64 E.seq) ∧ W.cell? ⟨k2, 4, none⟩ = some (.int .u64 E.log))) := fun W hb => by
    obtain ⟨x0, x1, x2, x3⟩ := ver_cells (HXc.out.below hb HXc.out.lt)
    obtain ⟨u0, u1, u2, u3⟩ := ver_cells (HJ1c.out.below hb HJ1c.out.lt)
    obtain ⟨v0, v1, v2, v3⟩ := ver_cells (HJ2c.out.below hb HJ2c.out.lt)
    obtain ⟨p0, p1, p2, p3, p4⟩ := edi_cells (HK1c.out.below hb HK1c.out.lt)
    obtain ⟨q0, q1, q2, q3, q4⟩ := edi_cells (HK2c.out.below hb HK2c.out.lt)
    exact ⟨x0, x1, x2, x3, u0, u1, u2, u3, v0, v1, v2, v3, p0, p1, p2, p3, p4, q0, q1, q2, q3, q4⟩
  have D0 : Below wc.heap.size wc wc.drew := below_drew (Below.refl _ _)
  have HAS1 : Hid (A.levels.length ≤ 1000000) := HAS.out.1
  have HAS2 : Hid (∀ i, i < A.levels.length → (lat A.levels i).length ≤ 1000000) := HAS.out.2
  have HWS1 : Hid (E.drops.length ≤ 1000000 ∧ E.adds.length ≤ 1000000) := HWS.out
  clear HAS HWS
  have HR1v : Hid (Rw (rowK filK) Any wc (.slice ra nA rc) A.levels) := HR1c.out
  have HR2v : Hid (Rw (rowK filK) Any wc (.slice rb nA rd) A.levels) := HR2c.out
  have HE1v : Hid (EdiAt Any wc E (.slice ea nD ec) (.slice fa nE fc)) := HE1c.out
  have HE2v : Hid (EdiAt Any wc E (.slice eb nD ed) (.slice fb nE fd)) := HE2c.out
  refine wp_region_held_drew (S := fun W => (W.cell? ⟨b1, 0, none⟩ = some (.slice xa m ca) ∧ W.cell? ⟨b1, 1, none⟩ = some (.int .u64 v.next) ∧ W.cell? ⟨b1, 2, none⟩ = some (.int .u64 v.seq) ∧ W.cell? ⟨b1, 3, none⟩ = some (.int .u64 v.log) ∧ W.cell? ⟨j1, 0, none⟩ = some (.slice ra nA rc) ∧ W.cell? ⟨j1, 1, none⟩ = some (.int .u64 A.next) ∧ W.cell? ⟨j1, 2, none⟩ = some (.int .u64 A.seq) ∧ W.cell? ⟨j1, 3, none⟩ = some (.int .u64 A.log) ∧ W.cell? ⟨j2, 0, none⟩ = some (.slice rb nA rd) ∧ W.cell? ⟨j2, 1, none⟩ = some (.int .u64 A.next) ∧ W.cell? ⟨j2, 2, none⟩ = some (.int .u64 A.seq) ∧ W.cell? ⟨j2, 3, none⟩ = some (.int .u64 A.log) ∧ W.cell? ⟨k1, 0, none⟩ = some (.slice ea nD ec) ∧ W.cell? ⟨k1, 1, none⟩ = some (.slice fa nE fc) ∧ W.cell? ⟨k1, 2, none⟩ = some (.int .u64 E.next) ∧ W.cell? ⟨k1, 3, none⟩ = some (.int .u64 E.seq) ∧ W.cell? ⟨k1, 4, none⟩ = some (.int .u64 E.log) ∧ W.cell? ⟨k2, 0, none⟩ = some (.slice eb nD ed) ∧ W.cell? ⟨k2, 1, none⟩ = some (.slice fb nE fd) ∧ W.cell? ⟨k2, 2, none⟩ = some (.int .u64 E.next) ∧ W.cell? ⟨k2, 3, none⟩ = some (.int .u64 E.seq) ∧ W.cell? ⟨k2, 4, none⟩ = some (.int .u64 E.log))) (by kernel_rfl) (HKP.out _ D0) (fun hHeld => ?_)
  refine wpAnyH_take (i := 0) (oi := ?oR_1_0) (v := ?vR_1_0) ?eR_1_0 (by kernel_rfl) (by kernel_rfl) (by kernel_rfl) ?qR_1_0 (Or.inl ⟨?wR_1_0, ?yR_1_0⟩) (by assumption) ?rR_1_0
  case eR_1_0 => simp only [List.getElem?_toArray, List.getElem?_cons_zero]; rfl
  case wR_1_0 => rfl
  case qR_1_0 => exact fun _ _ _ h => h
  case yR_1_0 => (intro w hSw; (try dsimp only at hSw); go_simp; try with_reducible rfl)
  try simp only [Act.put, List.setIfInBounds_toArray, List.set_cons_zero, List.set_cons_succ]
  refine wpAnyH_take (i := 2) (oi := ?oR_2_2) (v := ?vR_2_2) ?eR_2_2 (by kernel_rfl) (by kernel_rfl) (by kernel_rfl) ?qR_2_2 (Or.inl ⟨?wR_2_2, ?yR_2_2⟩) (by assumption) ?rR_2_2
  case eR_2_2 => simp only [List.getElem?_toArray, List.getElem?_cons_succ, List.getElem?_cons_zero]; rfl
  case wR_2_2 => rfl
  case qR_2_2 => exact fun _ _ _ h => h
  case yR_2_2 => (intro w hSw; (try dsimp only at hSw); go_simp; try with_reducible rfl)
  try simp only [Act.put, List.setIfInBounds_toArray, List.set_cons_zero, List.set_cons_succ]
  have hOld := hHeld
  clear hHeld
  refine wpAnyH_ready (rs := [1]) (by kernel_rfl) (by simp) ?_
  refine AllReadyH.cons (o := ?oR_3_1) ?eR_3_1 (fun K hK => ?_) AllReadyH.nil
  case eR_3_1 => simp only [List.getElem?_toArray, List.getElem?_cons_succ, List.getElem?_cons_zero]; rfl
  go_simp
  (go_at_call 33; refine Calls.mono (HCK.out _ (HWc.out.trans (D0.mono HWc.out.size))) ?_; rintro _ q0 ⟨rfl, hb0⟩; have D1 : Below wc.heap.size wc q0 := D0.trans (hb0.mono D0.size); clear hb0)
  try go_wp2_with fail
  refine hK.out _ _ (HKP.out _ D1) (fun hHeld => ?_)
  clear hK hOld
  try simp only [Act.put, List.setIfInBounds_toArray, List.set_cons_zero, List.set_cons_succ]
  have hOld := hHeld
  clear hHeld
  refine wpAnyH_ready (rs := [3]) (by kernel_rfl) (by simp) ?_
  refine AllReadyH.cons (o := ?oR_4_3) ?eR_4_3 (fun K hK => ?_) AllReadyH.nil
  case eR_4_3 => simp only [List.getElem?_toArray, List.getElem?_cons_succ, List.getElem?_cons_zero]; rfl
  go_simp
  (go_at_call 11; refine Calls.mono (HRC.out _ (HWc.out.trans (D1.mono HWc.out.size))) ?_; rintro _ q1 ⟨rfl, hb1⟩; have D2 : Below wc.heap.size wc q1 := D1.trans (hb1.mono D1.size); clear hb1)
  try go_wp2_with fail
  refine hK.out _ _ (HKP.out _ D2) (fun hHeld => ?_)
  clear hK hOld
  try simp only [Act.put, List.setIfInBounds_toArray, List.set_cons_zero, List.set_cons_succ]
  refine wpAnyH_take (i := 4) (oi := ?oR_5_4) (v := ?vR_5_4) ?eR_5_4 (by kernel_rfl) (by kernel_rfl) (by kernel_rfl) ?qR_5_4 (Or.inl ⟨?wR_5_4, ?yR_5_4⟩) (by assumption) ?rR_5_4
  case eR_5_4 => simp only [List.getElem?_toArray, List.getElem?_cons_succ, List.getElem?_cons_zero]; rfl
  case wR_5_4 => rfl
  case qR_5_4 => exact fun _ _ _ h => h
  case yR_5_4 => (intro w hSw; (try dsimp only at hSw); go_simp; try with_reducible rfl)
  try simp only [Act.put, List.setIfInBounds_toArray, List.set_cons_zero, List.set_cons_succ]
  refine wpAnyH_take (i := 5) (oi := ?oR_6_5) (v := ?vR_6_5) ?eR_6_5 (by kernel_rfl) (by kernel_rfl) (by kernel_rfl) ?qR_6_5 (Or.inl ⟨?wR_6_5, ?yR_6_5⟩) (by assumption) ?rR_6_5
  case eR_6_5 => simp only [List.getElem?_toArray, List.getElem?_cons_succ, List.getElem?_cons_zero]; rfl
  case wR_6_5 => rfl
  case qR_6_5 => exact fun _ _ _ h => h
  case yR_6_5 => (intro w hSw; (try dsimp only at hSw); go_simp; try with_reducible rfl)
  try simp only [Act.put, List.setIfInBounds_toArray, List.set_cons_zero, List.set_cons_succ]
  refine wpAnyH_take (i := 6) (oi := ?oR_7_6) (v := ?vR_7_6) ?eR_7_6 (by kernel_rfl) (by kernel_rfl) (by kernel_rfl) ?qR_7_6 (Or.inl ⟨?wR_7_6, ?yR_7_6⟩) (by assumption) ?rR_7_6
  case eR_7_6 => simp only [List.getElem?_toArray, List.getElem?_cons_succ, List.getElem?_cons_zero]; rfl
  case wR_7_6 => rfl
  case qR_7_6 => exact fun _ _ _ h => h
  case yR_7_6 => (intro w hSw; (try dsimp only at hSw); go_simp; try with_reducible rfl)
  try simp only [Act.put, List.setIfInBounds_toArray, List.set_cons_zero, List.set_cons_succ]
  refine wpAnyH_take (i := 7) (oi := ?oR_8_7) (v := ?vR_8_7) ?eR_8_7 (by kernel_rfl) (by kernel_rfl) (by kernel_rfl) ?qR_8_7 (Or.inl ⟨?wR_8_7, ?yR_8_7⟩) (by assumption) ?rR_8_7
  case eR_8_7 => simp only [List.getElem?_toArray, List.getElem?_cons_succ, List.getElem?_cons_zero]; rfl
  case wR_8_7 => rfl
  case qR_8_7 => exact fun _ _ _ h => h
  case yR_8_7 => (intro w hSw; (try dsimp only at hSw); go_simp; try with_reducible rfl)
  try simp only [Act.put, List.setIfInBounds_toArray, List.set_cons_zero, List.set_cons_succ]
  have hOld := hHeld
  clear hHeld
  refine wpAnyH_ready (rs := [8]) (by kernel_rfl) (by simp) ?_
  refine AllReadyH.cons (o := ?oR_9_8) ?eR_9_8 (fun K hK => ?_) AllReadyH.nil
  case eR_9_8 => simp only [List.getElem?_toArray, List.getElem?_cons_succ, List.getElem?_cons_zero]; rfl
  go_simp
  (go_at_call 41; refine Calls.mono (kversion_same _ _ A _ _ _ (HR1v.out.below D2) (HR2v.out.below D2) HAS1.out HAS2.out) ?_; rintro _ q2 ⟨rfl, hb2⟩; have D3 : Below wc.heap.size wc q2 := D2.trans (hb2.mono D2.size); clear hb2)
  try go_wp2_with fail
  refine hK.out _ _ (HKP.out _ D3) (fun hHeld => ?_)
  clear hK hOld
  try simp only [Act.put, List.setIfInBounds_toArray, List.set_cons_zero, List.set_cons_succ]
  refine wpAnyH_take (i := 9) (oi := ?oR_10_9) (v := ?vR_10_9) ?eR_10_9 (by kernel_rfl) (by kernel_rfl) (by kernel_rfl) ?qR_10_9 (Or.inl ⟨?wR_10_9, ?yR_10_9⟩) (by assumption) ?rR_10_9
  case eR_10_9 => simp only [List.getElem?_toArray, List.getElem?_cons_succ, List.getElem?_cons_zero]; rfl
  case wR_10_9 => rfl
  case qR_10_9 => exact fun _ _ _ h => h
  case yR_10_9 => (intro w hSw; (try dsimp only at hSw); go_simp; try with_reducible rfl)
  try simp only [Act.put, List.setIfInBounds_toArray, List.set_cons_zero, List.set_cons_succ]
  refine wpAnyH_take (i := 10) (oi := ?oR_11_10) (v := ?vR_11_10) ?eR_11_10 (by kernel_rfl) (by kernel_rfl) (by kernel_rfl) ?qR_11_10 (Or.inl ⟨?wR_11_10, ?yR_11_10⟩) (by assumption) ?rR_11_10
  case eR_11_10 => simp only [List.getElem?_toArray, List.getElem?_cons_succ, List.getElem?_cons_zero]; rfl
  case wR_11_10 => rfl
  case qR_11_10 => exact fun _ _ _ h => h
  case yR_11_10 => (intro w hSw; (try dsimp only at hSw); go_simp; try with_reducible rfl)
  try simp only [Act.put, List.setIfInBounds_toArray, List.set_cons_zero, List.set_cons_succ]
  refine wpAnyH_take (i := 11) (oi := ?oR_12_11) (v := ?vR_12_11) ?eR_12_11 (by kernel_rfl) (by kernel_rfl) (by kernel_rfl) ?qR_12_11 (Or.inl ⟨?wR_12_11, ?yR_12_11⟩) (by assumption) ?rR_12_11
  case eR_12_11 => simp only [List.getElem?_toArray, List.getElem?_cons_succ, List.getElem?_cons_zero]; rfl
  case wR_12_11 => rfl
  case qR_12_11 => exact fun _ _ _ h => h
  case yR_12_11 => (intro w hSw; (try dsimp only at hSw); go_simp; try with_reducible rfl)
  try simp only [Act.put, List.setIfInBounds_toArray, List.set_cons_zero, List.set_cons_succ]
  refine wpAnyH_take (i := 12) (oi := ?oR_13_12) (v := ?vR_13_12) ?eR_13_12 (by kernel_rfl) (by kernel_rfl) (by kernel_rfl) ?qR_13_12 (Or.inl ⟨?wR_13_12, ?yR_13_12⟩) (by assumption) ?rR_13_12
  case eR_13_12 => simp only [List.getElem?_toArray, List.getElem?_cons_succ, List.getElem?_cons_zero]; rfl
  case wR_13_12 => rfl
  case qR_13_12 => exact fun _ _ _ h => h
  case yR_13_12 => (intro w hSw; (try dsimp only at hSw); go_simp; try with_reducible rfl)
  try simp only [Act.put, List.setIfInBounds_toArray, List.set_cons_zero, List.set_cons_succ]
  refine wpAnyH_take (i := 13) (oi := ?oR_14_13) (v := ?vR_14_13) ?eR_14_13 (by kernel_rfl) (by kernel_rfl) (by kernel_rfl) ?qR_14_13 (Or.inl ⟨?wR_14_13, ?yR_14_13⟩) (by assumption) ?rR_14_13
  case eR_14_13 => simp only [List.getElem?_toArray, List.getElem?_cons_succ, List.getElem?_cons_zero]; rfl
  case wR_14_13 => rfl
  case qR_14_13 => exact fun _ _ _ h => h
  case yR_14_13 => (intro w hSw; (try dsimp only at hSw); go_simp; try with_reducible rfl)
  try simp only [Act.put, List.setIfInBounds_toArray, List.set_cons_zero, List.set_cons_succ]
  refine wpAnyH_take (i := 14) (oi := ?oR_15_14) (v := ?vR_15_14) ?eR_15_14 (by kernel_rfl) (by kernel_rfl) (by kernel_rfl) ?qR_15_14 (Or.inl ⟨?wR_15_14, ?yR_15_14⟩) (by assumption) ?rR_15_14
  case eR_15_14 => simp only [List.getElem?_toArray, List.getElem?_cons_succ, List.getElem?_cons_zero]; rfl
  case wR_15_14 => rfl
  case qR_15_14 => exact fun _ _ _ h => h
  case yR_15_14 => (intro w hSw; (try dsimp only at hSw); go_simp; try with_reducible rfl)
  try simp only [Act.put, List.setIfInBounds_toArray, List.set_cons_zero, List.set_cons_succ]
  refine wpAnyH_take (i := 15) (oi := ?oR_16_15) (v := ?vR_16_15) ?eR_16_15 (by kernel_rfl) (by kernel_rfl) (by kernel_rfl) ?qR_16_15 (Or.inl ⟨?wR_16_15, ?yR_16_15⟩) (by assumption) ?rR_16_15
  case eR_16_15 => simp only [List.getElem?_toArray, List.getElem?_cons_succ, List.getElem?_cons_zero]; rfl
  case wR_16_15 => rfl
  case qR_16_15 => exact fun _ _ _ h => h
  case yR_16_15 => (intro w hSw; (try dsimp only at hSw); go_simp; try with_reducible rfl)
  try simp only [Act.put, List.setIfInBounds_toArray, List.set_cons_zero, List.set_cons_succ]
  refine wpAnyH_take (i := 16) (oi := ?oR_17_16) (v := ?vR_17_16) ?eR_17_16 (by kernel_rfl) (by kernel_rfl) (by kernel_rfl) ?qR_17_16 (Or.inl ⟨?wR_17_16, ?yR_17_16⟩) (by assumption) ?rR_17_16
  case eR_17_16 => simp only [List.getElem?_toArray, List.getElem?_cons_succ, List.getElem?_cons_zero]; rfl
  case wR_17_16 => rfl
  case qR_17_16 => exact fun _ _ _ h => h
  case yR_17_16 => (intro w hSw; (try dsimp only at hSw); go_simp; try with_reducible rfl)
  try simp only [Act.put, List.setIfInBounds_toArray, List.set_cons_zero, List.set_cons_succ]
  refine wpAnyH_take (i := 17) (oi := ?oR_18_17) (v := ?vR_18_17) ?eR_18_17 (by kernel_rfl) (by kernel_rfl) (by kernel_rfl) ?qR_18_17 (Or.inl ⟨?wR_18_17, ?yR_18_17⟩) (by assumption) ?rR_18_17
  case eR_18_17 => simp only [List.getElem?_toArray, List.getElem?_cons_succ, List.getElem?_cons_zero]; rfl
  case wR_18_17 => rfl
  case qR_18_17 => exact fun _ _ _ h => h
  case yR_18_17 => (intro w hSw; (try dsimp only at hSw); go_simp; try with_reducible rfl)
  try simp only [Act.put, List.setIfInBounds_toArray, List.set_cons_zero, List.set_cons_succ]
  have hOld := hHeld
  clear hHeld
  refine wpAnyH_ready (rs := [18]) (by kernel_rfl) (by simp) ?_
  refine AllReadyH.cons (o := ?oR_19_18) ?eR_19_18 (fun K hK => ?_) AllReadyH.nil
  case eR_19_18 => simp only [List.getElem?_toArray, List.getElem?_cons_succ, List.getElem?_cons_zero]; rfl
  go_simp
  (go_at_call 42; refine Calls.mono (kedit_same _ _ E _ _ _ _ _ (HE1v.out.below D3) (HE2v.out.below D3) HWS1.out.1 HWS1.out.2) ?_; rintro _ q3 ⟨rfl, hb3⟩; have D4 : Below wc.heap.size wc q3 := D3.trans (hb3.mono D3.size); clear hb3)
  try go_wp2_with fail
  refine hK.out _ _ (HKP.out _ D4) (fun hHeld => ?_)
  clear hK hOld
  try simp only [Act.put, List.setIfInBounds_toArray, List.set_cons_zero, List.set_cons_succ]
  refine wpAnyH_take (i := 19) (oi := ?oR_20_19) (v := ?vR_20_19) ?eR_20_19 (by kernel_rfl) (by kernel_rfl) (by kernel_rfl) ?qR_20_19 (Or.inl ⟨?wR_20_19, ?yR_20_19⟩) (by assumption) ?rR_20_19
  case eR_20_19 => simp only [List.getElem?_toArray, List.getElem?_cons_succ, List.getElem?_cons_zero]; rfl
  case wR_20_19 => rfl
  case qR_20_19 => exact fun _ _ _ h => h
  case yR_20_19 => (intro w hSw; (try dsimp only at hSw); go_simp; try with_reducible rfl)
  try simp only [Act.put, List.setIfInBounds_toArray, List.set_cons_zero, List.set_cons_succ]
  refine wpAnyH_take (i := 20) (oi := ?oR_21_20) (v := ?vR_21_20) ?eR_21_20 (by kernel_rfl) (by kernel_rfl) (by kernel_rfl) ?qR_21_20 (Or.inl ⟨?wR_21_20, ?yR_21_20⟩) (by assumption) ?rR_21_20
  case eR_21_20 => simp only [List.getElem?_toArray, List.getElem?_cons_succ, List.getElem?_cons_zero]; rfl
  case wR_21_20 => rfl
  case qR_21_20 => exact fun _ _ _ h => h
  case yR_21_20 => (intro w hSw; (try dsimp only at hSw); go_simp; try with_reducible rfl)
  try simp only [Act.put, List.setIfInBounds_toArray, List.set_cons_zero, List.set_cons_succ]
  refine wpAnyH_take (i := 21) (oi := ?oR_22_21) (v := ?vR_22_21) ?eR_22_21 (by kernel_rfl) (by kernel_rfl) (by kernel_rfl) ?qR_22_21 (Or.inl ⟨?wR_22_21, ?yR_22_21⟩) (by assumption) ?rR_22_21
  case eR_22_21 => simp only [List.getElem?_toArray, List.getElem?_cons_succ, List.getElem?_cons_zero]; rfl
  case wR_22_21 => rfl
  case qR_22_21 => exact fun _ _ _ h => h
  case yR_22_21 => (intro w hSw; (try dsimp only at hSw); go_simp; try with_reducible rfl)
  try simp only [Act.put, List.setIfInBounds_toArray, List.set_cons_zero, List.set_cons_succ]
  refine wpAnyH_take (i := 22) (oi := ?oR_23_22) (v := ?vR_23_22) ?eR_23_22 (by kernel_rfl) (by kernel_rfl) (by kernel_rfl) ?qR_23_22 (Or.inl ⟨?wR_23_22, ?yR_23_22⟩) (by assumption) ?rR_23_22
  case eR_23_22 => simp only [List.getElem?_toArray, List.getElem?_cons_succ, List.getElem?_cons_zero]; rfl
  case wR_23_22 => rfl
  case qR_23_22 => exact fun _ _ _ h => h
  case yR_23_22 => (intro w hSw; (try dsimp only at hSw); go_simp; try with_reducible rfl)
  try simp only [Act.put, List.setIfInBounds_toArray, List.set_cons_zero, List.set_cons_succ]
  refine wpAnyH_take (i := 23) (oi := ?oR_24_23) (v := ?vR_24_23) ?eR_24_23 (by kernel_rfl) (by kernel_rfl) (by kernel_rfl) ?qR_24_23 (Or.inl ⟨?wR_24_23, ?yR_24_23⟩) (by assumption) ?rR_24_23
  case eR_24_23 => simp only [List.getElem?_toArray, List.getElem?_cons_succ, List.getElem?_cons_zero]; rfl
  case wR_24_23 => rfl
  case qR_24_23 => exact fun _ _ _ h => h
  case yR_24_23 => (intro w hSw; (try dsimp only at hSw); go_simp; try with_reducible rfl)
  try simp only [Act.put, List.setIfInBounds_toArray, List.set_cons_zero, List.set_cons_succ]
  refine wpAnyH_take (i := 24) (oi := ?oR_25_24) (v := ?vR_25_24) ?eR_25_24 (by kernel_rfl) (by kernel_rfl) (by kernel_rfl) ?qR_25_24 (Or.inl ⟨?wR_25_24, ?yR_25_24⟩) (by assumption) ?rR_25_24
  case eR_25_24 => simp only [List.getElem?_toArray, List.getElem?_cons_succ, List.getElem?_cons_zero]; rfl
  case wR_25_24 => rfl
  case qR_25_24 => exact fun _ _ _ h => h
  case yR_25_24 => (intro w hSw; (try dsimp only at hSw); go_simp; try with_reducible rfl)
  try simp only [Act.put, List.setIfInBounds_toArray, List.set_cons_zero, List.set_cons_succ]
  refine wpAnyH_take (i := 25) (oi := ?oR_26_25) (v := ?vR_26_25) ?eR_26_25 (by kernel_rfl) (by kernel_rfl) (by kernel_rfl) ?qR_26_25 (Or.inl ⟨?wR_26_25, ?yR_26_25⟩) (by assumption) ?rR_26_25
  case eR_26_25 => simp only [List.getElem?_toArray, List.getElem?_cons_succ, List.getElem?_cons_zero]; rfl
  case wR_26_25 => rfl
  case qR_26_25 => exact fun _ _ _ h => h
  case yR_26_25 => (intro w hSw; (try dsimp only at hSw); go_simp; try with_reducible rfl)
  try simp only [Act.put, List.setIfInBounds_toArray, List.set_cons_zero, List.set_cons_succ]
  refine wpAnyH_take (i := 26) (oi := ?oR_27_26) (v := ?vR_27_26) ?eR_27_26 (by kernel_rfl) (by kernel_rfl) (by kernel_rfl) ?qR_27_26 (Or.inl ⟨?wR_27_26, ?yR_27_26⟩) (by assumption) ?rR_27_26
  case eR_27_26 => simp only [List.getElem?_toArray, List.getElem?_cons_succ, List.getElem?_cons_zero]; rfl
  case wR_27_26 => rfl
  case qR_27_26 => exact fun _ _ _ h => h
  case yR_27_26 => (intro w hSw; (try dsimp only at hSw); go_simp; try with_reducible rfl)
  try simp only [Act.put, List.setIfInBounds_toArray, List.set_cons_zero, List.set_cons_succ]
  refine wpAnyH_take (i := 27) (oi := ?oR_28_27) (v := ?vR_28_27) ?eR_28_27 (by kernel_rfl) (by kernel_rfl) (by kernel_rfl) ?qR_28_27 (Or.inl ⟨?wR_28_27, ?yR_28_27⟩) (by assumption) ?rR_28_27
  case eR_28_27 => simp only [List.getElem?_toArray, List.getElem?_cons_succ, List.getElem?_cons_zero]; rfl
  case wR_28_27 => rfl
  case qR_28_27 => exact fun _ _ _ h => h
  case yR_28_27 => (intro w hSw; (try dsimp only at hSw); go_simp; try with_reducible rfl)
  try simp only [Act.put, List.setIfInBounds_toArray, List.set_cons_zero, List.set_cons_succ]
  refine wpAnyH_take (i := 28) (oi := ?oR_29_28) (v := ?vR_29_28) ?eR_29_28 (by kernel_rfl) (by kernel_rfl) (by kernel_rfl) ?qR_29_28 (Or.inl ⟨?wR_29_28, ?yR_29_28⟩) (by assumption) ?rR_29_28
  case eR_29_28 => simp only [List.getElem?_toArray, List.getElem?_cons_succ, List.getElem?_cons_zero]; rfl
  case wR_29_28 => rfl
  case qR_29_28 => exact fun _ _ _ h => h
  case yR_29_28 => (intro w hSw; (try dsimp only at hSw); go_simp; try with_reducible rfl)
  try simp only [Act.put, List.setIfInBounds_toArray, List.set_cons_zero, List.set_cons_succ]
  refine wpAnyH_take (i := 29) (oi := ?oR_30_29) (v := ?vR_30_29) ?eR_30_29 (by kernel_rfl) (by kernel_rfl) (by kernel_rfl) ?qR_30_29 (Or.inl ⟨?wR_30_29, ?yR_30_29⟩) (by assumption) ?rR_30_29
  case eR_30_29 => simp only [List.getElem?_toArray, List.getElem?_cons_succ, List.getElem?_cons_zero]; rfl
  case wR_30_29 => rfl
  case qR_30_29 => exact fun _ _ _ h => h
  case yR_30_29 => (intro w hSw; (try dsimp only at hSw); go_simp; try with_reducible rfl)
  try simp only [Act.put, List.setIfInBounds_toArray, List.set_cons_zero, List.set_cons_succ]
  refine wpAnyH_take (i := 31) (oi := ?oR_31_31) (v := ?vR_31_31) ?eR_31_31 (by kernel_rfl) (by kernel_rfl) (by kernel_rfl) ?qR_31_31 (Or.inl ⟨?wR_31_31, ?yR_31_31⟩) (by assumption) ?rR_31_31
  case eR_31_31 => simp only [List.getElem?_toArray, List.getElem?_cons_succ, List.getElem?_cons_zero]; rfl
  case wR_31_31 => rfl
  case qR_31_31 => exact fun _ _ _ h => h
  case yR_31_31 => (intro w hSw; (try dsimp only at hSw); go_simp; try with_reducible rfl)
  try simp only [Act.put, List.setIfInBounds_toArray, List.set_cons_zero, List.set_cons_succ]
  refine wpAnyH_take (i := 32) (oi := ?oR_32_32) (v := ?vR_32_32) ?eR_32_32 (by kernel_rfl) (by kernel_rfl) (by kernel_rfl) ?qR_32_32 (Or.inl ⟨?wR_32_32, ?yR_32_32⟩) (by assumption) ?rR_32_32
  case eR_32_32 => simp only [List.getElem?_toArray, List.getElem?_cons_succ, List.getElem?_cons_zero]; rfl
  case wR_32_32 => rfl
  case qR_32_32 => exact fun _ _ _ h => h
  case yR_32_32 => (intro w hSw; (try dsimp only at hSw); go_simp; try with_reducible rfl)
  try simp only [Act.put, List.setIfInBounds_toArray, List.set_cons_zero, List.set_cons_succ]
  refine wpAnyH_take (i := 33) (oi := ?oR_33_33) (v := ?vR_33_33) ?eR_33_33 (by kernel_rfl) (by kernel_rfl) (by kernel_rfl) ?qR_33_33 (Or.inl ⟨?wR_33_33, ?yR_33_33⟩) (by assumption) ?rR_33_33
  case eR_33_33 => simp only [List.getElem?_toArray, List.getElem?_cons_succ, List.getElem?_cons_zero]; rfl
  case wR_33_33 => rfl
  case qR_33_33 => exact fun _ _ _ h => h
  case yR_33_33 => (intro w hSw; (try dsimp only at hSw); go_simp; try with_reducible rfl)
  try simp only [Act.put, List.setIfInBounds_toArray, List.set_cons_zero, List.set_cons_succ]
  refine wpAnyH_take (i := 34) (oi := ?oR_34_34) (v := ?vR_34_34) ?eR_34_34 (by kernel_rfl) (by kernel_rfl) (by kernel_rfl) ?qR_34_34 (Or.inl ⟨?wR_34_34, ?yR_34_34⟩) (by assumption) ?rR_34_34
  case eR_34_34 => simp only [List.getElem?_toArray, List.getElem?_cons_succ, List.getElem?_cons_zero]; rfl
  case wR_34_34 => rfl
  case qR_34_34 => exact fun _ _ _ h => h
  case yR_34_34 => (intro w hSw; (try dsimp only at hSw); go_simp; try with_reducible rfl)
  try simp only [Act.put, List.setIfInBounds_toArray, List.set_cons_zero, List.set_cons_succ]
  have hOld := hHeld
  clear hHeld
  refine wpAnyH_ready (rs := [30]) (by kernel_rfl) (by simp) ?_
  refine AllReadyH.cons (o := ?oR_35_30) ?eR_35_30 (fun K hK => ?_) AllReadyH.nil
  case eR_35_30 => simp only [List.getElem?_toArray, List.getElem?_cons_succ, List.getElem?_cons_zero]; rfl
  go_simp
  (go_at_call 44; refine Calls.mono (HOV.out _ (HWc.out.trans (D4.mono HWc.out.size))) ?_; rintro _ q4 ⟨o1, rfl, ho1, hb4⟩; have D5 : Below wc.heap.size wc q4 := D4.trans (hb4.mono D4.size); clear hb4; obtain ⟨oa1, oc1, rfl⟩ := ho1.isSlice)
  try go_wp2_with fail
  refine hK.out _ _ (HKP.out _ D5) (fun hHeld => ?_)
  clear hK hOld
  try simp only [Act.put, List.setIfInBounds_toArray, List.set_cons_zero, List.set_cons_succ]
  have hOld := hHeld
  clear hHeld
  refine wpAnyH_ready (rs := [35]) (by kernel_rfl) (by simp) ?_
  refine AllReadyH.cons (o := ?oR_36_35) ?eR_36_35 (fun K hK => ?_) AllReadyH.nil
  case eR_36_35 => simp only [List.getElem?_toArray, List.getElem?_cons_succ, List.getElem?_cons_zero]; rfl
  go_simp
  (go_at_call 45; refine Calls.mono (HRO.out _ (HWc.out.trans (D5.mono HWc.out.size))) ?_; rintro _ q5 ⟨o2, rfl, ho2, hb5⟩; have D6 : Below wc.heap.size wc q5 := D5.trans (hb5.mono D5.size); have ho1 := ho1.below hb5; clear hb5; obtain ⟨oa2, oc2, rfl⟩ := ho2.isSlice)
  try go_wp2_with fail
  refine hK.out _ _ (HKP.out _ D6) (fun hHeld => ?_)
  clear hK hOld
  try simp only [Act.put, List.setIfInBounds_toArray, List.set_cons_zero, List.set_cons_succ]
  have hOld := hHeld
  clear hHeld
  refine wpAnyH_ready (rs := [36]) (by kernel_rfl) (by simp) ?_
  refine AllReadyH.cons (o := ?oR_37_36) ?eR_37_36 (fun K hK => ?_) AllReadyH.nil
  case eR_37_36 => simp only [List.getElem?_toArray, List.getElem?_cons_succ, List.getElem?_cons_zero]; rfl
  go_simp
  (go_at_call 43; refine Calls.mono (kfiles_same _ _ _ _ OB _ ho1 ho2 HOS.out) ?_; rintro _ q6 ⟨rfl, hb6⟩; have D7 : Below wc.heap.size wc q6 := D6.trans (hb6.mono D6.size); clear hb6)
  try go_wp2_with fail
  refine hK.out _ _ (HKP.out _ D7) (fun hHeld => ?_)
  clear hK hOld
  try simp only [Act.put, List.setIfInBounds_toArray, List.set_cons_zero, List.set_cons_succ]
  refine wpAnyH_take (i := 37) (oi := ?oR_38_37) (v := ?vR_38_37) ?eR_38_37 (by kernel_rfl) (by kernel_rfl) (by kernel_rfl) ?qR_38_37 (Or.inl ⟨?wR_38_37, ?yR_38_37⟩) (by assumption) ?rR_38_37
  case eR_38_37 => simp only [List.getElem?_toArray, List.getElem?_cons_succ, List.getElem?_cons_zero]; rfl
  case wR_38_37 => rfl
  case qR_38_37 => exact fun _ _ _ h => h
  case yR_38_37 => (intro w hSw; (try dsimp only at hSw); go_simp; try with_reducible rfl)
  try simp only [Act.put, List.setIfInBounds_toArray, List.set_cons_zero, List.set_cons_succ]
  refine wpAnyH_take (i := 38) (oi := ?oR_39_38) (v := ?vR_39_38) ?eR_39_38 (by kernel_rfl) (by kernel_rfl) (by kernel_rfl) ?qR_39_38 (Or.inl ⟨?wR_39_38, ?yR_39_38⟩) (by assumption) ?rR_39_38
  case eR_39_38 => simp only [List.getElem?_toArray, List.getElem?_cons_succ, List.getElem?_cons_zero]; rfl
  case wR_39_38 => rfl
  case qR_39_38 => exact fun _ _ _ h => h
  case yR_39_38 => (intro w hSw; (try dsimp only at hSw); go_simp; try with_reducible rfl)
  try simp only [Act.put, List.setIfInBounds_toArray, List.set_cons_zero, List.set_cons_succ]
  refine wpAnyH_take (i := 39) (oi := ?oR_40_39) (v := ?vR_40_39) ?eR_40_39 (by kernel_rfl) (by kernel_rfl) (by kernel_rfl) ?qR_40_39 (Or.inl ⟨?wR_40_39, ?yR_40_39⟩) (by assumption) ?rR_40_39
  case eR_40_39 => simp only [List.getElem?_toArray, List.getElem?_cons_succ, List.getElem?_cons_zero]; rfl
  case wR_40_39 => rfl
  case qR_40_39 => exact fun _ _ _ h => h
  case yR_40_39 => (intro w hSw; (try dsimp only at hSw); go_simp; try with_reducible rfl)
  try simp only [Act.put, List.setIfInBounds_toArray, List.set_cons_zero, List.set_cons_succ]
  refine wpAnyH_take (i := 40) (oi := ?oR_41_40) (v := ?vR_41_40) ?eR_41_40 (by kernel_rfl) (by kernel_rfl) (by kernel_rfl) ?qR_41_40 (Or.inl ⟨?wR_41_40, ?yR_41_40⟩) (by assumption) ?rR_41_40
  case eR_41_40 => simp only [List.getElem?_toArray, List.getElem?_cons_succ, List.getElem?_cons_zero]; rfl
  case wR_41_40 => rfl
  case qR_41_40 => exact fun _ _ _ h => h
  case yR_41_40 => (intro w hSw; (try dsimp only at hSw); go_simp; try with_reducible rfl)
  try simp only [Act.put, List.setIfInBounds_toArray, List.set_cons_zero, List.set_cons_succ]
  refine wpAnyH_take (i := 42) (oi := ?oR_42_42) (v := ?vR_42_42) ?eR_42_42 (by kernel_rfl) (by kernel_rfl) (by kernel_rfl) ?qR_42_42 (Or.inl ⟨?wR_42_42, ?yR_42_42⟩) (by assumption) ?rR_42_42
  case eR_42_42 => simp only [List.getElem?_toArray, List.getElem?_cons_succ, List.getElem?_cons_zero]; rfl
  case wR_42_42 => rfl
  case qR_42_42 => exact fun _ _ _ h => h
  case yR_42_42 => (intro w hSw; (try dsimp only at hSw); go_simp; try with_reducible rfl)
  try simp only [Act.put, List.setIfInBounds_toArray, List.set_cons_zero, List.set_cons_succ]
  refine wpAnyH_take (i := 43) (oi := ?oR_43_43) (v := ?vR_43_43) ?eR_43_43 (by kernel_rfl) (by kernel_rfl) (by kernel_rfl) ?qR_43_43 (Or.inl ⟨?wR_43_43, ?yR_43_43⟩) (by assumption) ?rR_43_43
  case eR_43_43 => simp only [List.getElem?_toArray, List.getElem?_cons_succ, List.getElem?_cons_zero]; rfl
  case wR_43_43 => rfl
  case qR_43_43 => exact fun _ _ _ h => h
  case yR_43_43 => (intro w hSw; (try dsimp only at hSw); go_simp; try with_reducible rfl)
  try simp only [Act.put, List.setIfInBounds_toArray, List.set_cons_zero, List.set_cons_succ]
  have hOld := hHeld
  clear hHeld
  refine wpAnyH_ready (rs := [41]) (by kernel_rfl) (by simp) ?_
  refine AllReadyH.cons (o := ?oR_44_41) ?eR_44_41 (fun K hK => ?_) AllReadyH.nil
  case eR_44_41 => simp only [List.getElem?_toArray, List.getElem?_cons_succ, List.getElem?_cons_zero]; rfl
  go_simp
  (go_at_call 34; refine Calls.mono (HBY.out _ (HWc.out.trans (D7.mono HWc.out.size))) ?_; rintro _ q7 ⟨rfl, hb7⟩; have D8 : Below wc.heap.size wc q7 := D7.trans (hb7.mono D7.size); clear hb7)
  try go_wp2_with fail
  refine hK.out _ _ (HKP.out _ D8) (fun hHeld => ?_)
  clear hK hOld
  try simp only [Act.put, List.setIfInBounds_toArray, List.set_cons_zero, List.set_cons_succ]
  have hOld := hHeld
  clear hHeld
  refine wpAnyH_ready (rs := [44]) (by kernel_rfl) (by simp) ?_
  refine AllReadyH.cons (o := ?oR_45_44) ?eR_45_44 (fun K hK => ?_) AllReadyH.nil
  case eR_45_44 => simp only [List.getElem?_toArray, List.getElem?_cons_succ, List.getElem?_cons_zero]; rfl
  go_simp
  (go_at_call 46; refine Calls.mono (HRB.out _ (HWc.out.trans (D8.mono HWc.out.size))) ?_; rintro _ q8 ⟨rfl, hb8⟩; have D9 : Below wc.heap.size wc q8 := D8.trans (hb8.mono D8.size); clear hb8)
  try go_wp2_with fail
  refine hK.out _ _ (HKP.out _ D9) (fun hHeld => ?_)
  clear hK hOld
  try simp only [Act.put, List.setIfInBounds_toArray, List.set_cons_zero, List.set_cons_succ]
  refine wpAnyH_take (i := 45) (oi := ?oR_46_45) (v := ?vR_46_45) ?eR_46_45 (by kernel_rfl) (by kernel_rfl) (by kernel_rfl) ?qR_46_45 (Or.inl ⟨?wR_46_45, ?yR_46_45⟩) (by assumption) ?rR_46_45
  case eR_46_45 => simp only [List.getElem?_toArray, List.getElem?_cons_succ, List.getElem?_cons_zero]; rfl
  case wR_46_45 => rfl
  case qR_46_45 => exact fun _ _ _ h => h
  case yR_46_45 => (intro w hSw; (try dsimp only at hSw); go_simp; try with_reducible rfl)
  try simp only [Act.put, List.setIfInBounds_toArray, List.set_cons_zero, List.set_cons_succ]
  refine wpAnyH_take (i := 46) (oi := ?oR_47_46) (v := ?vR_47_46) ?eR_47_46 (by kernel_rfl) (by kernel_rfl) (by kernel_rfl) ?qR_47_46 (Or.inl ⟨?wR_47_46, ?yR_47_46⟩) (by assumption) ?rR_47_46
  case eR_47_46 => simp only [List.getElem?_toArray, List.getElem?_cons_succ, List.getElem?_cons_zero]; rfl
  case wR_47_46 => rfl
  case qR_47_46 => exact fun _ _ _ h => h
  case yR_47_46 => (intro w hSw; (try dsimp only at hSw); go_simp; try with_reducible rfl)
  try simp only [Act.put, List.setIfInBounds_toArray, List.set_cons_zero, List.set_cons_succ]
  refine wpAnyH_take (i := 47) (oi := ?oR_48_47) (v := ?vR_48_47) ?eR_48_47 (by kernel_rfl) (by kernel_rfl) (by kernel_rfl) ?qR_48_47 (Or.inl ⟨?wR_48_47, ?yR_48_47⟩) (by assumption) ?rR_48_47
  case eR_48_47 => simp only [List.getElem?_toArray, List.getElem?_cons_succ, List.getElem?_cons_zero]; rfl
  case wR_48_47 => rfl
  case qR_48_47 => exact fun _ _ _ h => h
  case yR_48_47 => (intro w hSw; (try dsimp only at hSw); go_simp; try with_reducible rfl)
  try simp only [Act.put, List.setIfInBounds_toArray, List.set_cons_zero, List.set_cons_succ]
  refine wpAnyH_take (i := 48) (oi := ?oR_49_48) (v := ?vR_49_48) ?eR_49_48 (by kernel_rfl) (by kernel_rfl) (by kernel_rfl) ?qR_49_48 (Or.inl ⟨?wR_49_48, ?yR_49_48⟩) (by assumption) ?rR_49_48
  case eR_49_48 => simp only [List.getElem?_toArray, List.getElem?_cons_succ, List.getElem?_cons_zero]; rfl
  case wR_49_48 => rfl
  case qR_49_48 => exact fun _ _ _ h => h
  case yR_49_48 => (intro w hSw; (try dsimp only at hSw); go_simp; try with_reducible rfl)
  try simp only [Act.put, List.setIfInBounds_toArray, List.set_cons_zero, List.set_cons_succ]
  refine wpAnyH_take (i := 49) (oi := ?oR_50_49) (v := ?vR_50_49) ?eR_50_49 (by kernel_rfl) (by kernel_rfl) (by kernel_rfl) ?qR_50_49 (Or.inl ⟨?wR_50_49, ?yR_50_49⟩) (by assumption) ?rR_50_49
  case eR_50_49 => simp only [List.getElem?_toArray, List.getElem?_cons_succ, List.getElem?_cons_zero]; rfl
  case wR_50_49 => rfl
  case qR_50_49 => exact fun _ _ _ h => h
  case yR_50_49 => (intro w hSw; (try dsimp only at hSw); go_simp; try with_reducible rfl)
  try simp only [Act.put, List.setIfInBounds_toArray, List.set_cons_zero, List.set_cons_succ]
  refine wpAnyH_take (i := 50) (oi := ?oR_51_50) (v := ?vR_51_50) ?eR_51_50 (by kernel_rfl) (by kernel_rfl) (by kernel_rfl) ?qR_51_50 (Or.inl ⟨?wR_51_50, ?yR_51_50⟩) (by assumption) ?rR_51_50
  case eR_51_50 => simp only [List.getElem?_toArray, List.getElem?_cons_succ, List.getElem?_cons_zero]; rfl
  case wR_51_50 => rfl
  case qR_51_50 => exact fun _ _ _ h => h
  case yR_51_50 => (intro w hSw; (try dsimp only at hSw); go_simp; try with_reducible rfl)
  try simp only [Act.put, List.setIfInBounds_toArray, List.set_cons_zero, List.set_cons_succ]
  refine wpAnyH_take (i := 51) (oi := ?oR_52_51) (v := ?vR_52_51) ?eR_52_51 (by kernel_rfl) (by kernel_rfl) (by kernel_rfl) ?qR_52_51 (Or.inl ⟨?wR_52_51, ?yR_52_51⟩) (by assumption) ?rR_52_51
  case eR_52_51 => simp only [List.getElem?_toArray, List.getElem?_cons_succ, List.getElem?_cons_zero]; rfl
  case wR_52_51 => rfl
  case qR_52_51 => exact fun _ _ _ h => h
  case yR_52_51 => (intro w hSw; (try dsimp only at hSw); go_simp; try with_reducible rfl)
  try simp only [Act.put, List.setIfInBounds_toArray, List.set_cons_zero, List.set_cons_succ]
  refine wpAnyH_take (i := 53) (oi := ?oR_53_53) (v := ?vR_53_53) ?eR_53_53 (by kernel_rfl) (by kernel_rfl) (by kernel_rfl) ?qR_53_53 (Or.inl ⟨?wR_53_53, ?yR_53_53⟩) (by assumption) ?rR_53_53
  case eR_53_53 => simp only [List.getElem?_toArray, List.getElem?_cons_succ, List.getElem?_cons_zero]; rfl
  case wR_53_53 => rfl
  case qR_53_53 => exact fun _ _ _ h => h
  case yR_53_53 => (intro w hSw; (try dsimp only at hSw); go_simp; try with_reducible rfl)
  try simp only [Act.put, List.setIfInBounds_toArray, List.set_cons_zero, List.set_cons_succ]
  refine wpAnyH_take (i := 54) (oi := ?oR_54_54) (v := ?vR_54_54) ?eR_54_54 (by kernel_rfl) (by kernel_rfl) (by kernel_rfl) ?qR_54_54 (Or.inl ⟨?wR_54_54, ?yR_54_54⟩) (by assumption) ?rR_54_54
  case eR_54_54 => simp only [List.getElem?_toArray, List.getElem?_cons_succ, List.getElem?_cons_zero]; rfl
  case wR_54_54 => rfl
  case qR_54_54 => exact fun _ _ _ h => h
  case yR_54_54 => (intro w hSw; (try dsimp only at hSw); go_simp; try with_reducible rfl)
  try simp only [Act.put, List.setIfInBounds_toArray, List.set_cons_zero, List.set_cons_succ]
  refine wpAnyH_take (i := 55) (oi := ?oR_55_55) (v := ?vR_55_55) ?eR_55_55 (by kernel_rfl) (by kernel_rfl) (by kernel_rfl) ?qR_55_55 (Or.inl ⟨?wR_55_55, ?yR_55_55⟩) (by assumption) ?rR_55_55
  case eR_55_55 => simp only [List.getElem?_toArray, List.getElem?_cons_succ, List.getElem?_cons_zero]; rfl
  case wR_55_55 => rfl
  case qR_55_55 => exact fun _ _ _ h => h
  case yR_55_55 => (intro w hSw; (try dsimp only at hSw); go_simp; try with_reducible rfl)
  try simp only [Act.put, List.setIfInBounds_toArray, List.set_cons_zero, List.set_cons_succ]
  refine wpAnyH_take (i := 56) (oi := ?oR_56_56) (v := ?vR_56_56) ?eR_56_56 (by kernel_rfl) (by kernel_rfl) (by kernel_rfl) ?qR_56_56 (Or.inl ⟨?wR_56_56, ?yR_56_56⟩) (by assumption) ?rR_56_56
  case eR_56_56 => simp only [List.getElem?_toArray, List.getElem?_cons_succ, List.getElem?_cons_zero]; rfl
  case wR_56_56 => rfl
  case qR_56_56 => exact fun _ _ _ h => h
  case yR_56_56 => (intro w hSw; (try dsimp only at hSw); go_simp; try with_reducible rfl)
  try simp only [Act.put, List.setIfInBounds_toArray, List.set_cons_zero, List.set_cons_succ]
  have hOld := hHeld
  clear hHeld
  refine wpAnyH_ready (rs := [52]) (by kernel_rfl) (by simp) ?_
  refine AllReadyH.cons (o := ?oR_57_52) ?eR_57_52 (fun K hK => ?_) AllReadyH.nil
  case eR_57_52 => simp only [List.getElem?_toArray, List.getElem?_cons_succ, List.getElem?_cons_zero]; rfl
  go_simp
  (go_at_call 35; refine Calls.mono (HDE.out _ (HWc.out.trans (D9.mono HWc.out.size))) ?_; rintro _ q9 ⟨rfl, hb9⟩; have D10 : Below wc.heap.size wc q9 := D9.trans (hb9.mono D9.size); clear hb9)
  try go_wp2_with fail
  refine hK.out _ _ (HKP.out _ D10) (fun hHeld => ?_)
  clear hK hOld
  try simp only [Act.put, List.setIfInBounds_toArray, List.set_cons_zero, List.set_cons_succ]
  have hOld := hHeld
  clear hHeld
  refine wpAnyH_ready (rs := [57]) (by kernel_rfl) (by simp) ?_
  refine AllReadyH.cons (o := ?oR_58_57) ?eR_58_57 (fun K hK => ?_) AllReadyH.nil
  case eR_58_57 => simp only [List.getElem?_toArray, List.getElem?_cons_succ, List.getElem?_cons_zero]; rfl
  go_simp
  (go_at_call 47; refine Calls.mono (HRD.out _ (HWc.out.trans (D10.mono HWc.out.size))) ?_; rintro _ q10 ⟨rfl, hb10⟩; have D11 : Below wc.heap.size wc q10 := D10.trans (hb10.mono D10.size); clear hb10)
  try go_wp2_with fail
  refine hK.out _ _ (HKP.out _ D11) (fun hHeld => ?_)
  clear hK hOld
  try simp only [Act.put, List.setIfInBounds_toArray, List.set_cons_zero, List.set_cons_succ]
  refine wpAnyH_take (i := 58) (oi := ?oR_59_58) (v := ?vR_59_58) ?eR_59_58 (by kernel_rfl) (by kernel_rfl) (by kernel_rfl) ?qR_59_58 (Or.inl ⟨?wR_59_58, ?yR_59_58⟩) (by assumption) ?rR_59_58
  case eR_59_58 => simp only [List.getElem?_toArray, List.getElem?_cons_succ, List.getElem?_cons_zero]; rfl
  case wR_59_58 => rfl
  case qR_59_58 => exact fun _ _ _ h => h
  case yR_59_58 => (intro w hSw; (try dsimp only at hSw); go_simp; try with_reducible rfl)
  try simp only [Act.put, List.setIfInBounds_toArray, List.set_cons_zero, List.set_cons_succ]
  refine wpAnyH_take (i := 59) (oi := ?oR_60_59) (v := ?vR_60_59) ?eR_60_59 (by kernel_rfl) (by kernel_rfl) (by kernel_rfl) ?qR_60_59 (Or.inl ⟨?wR_60_59, ?yR_60_59⟩) (by assumption) ?rR_60_59
  case eR_60_59 => simp only [List.getElem?_toArray, List.getElem?_cons_succ, List.getElem?_cons_zero]; rfl
  case wR_60_59 => rfl
  case qR_60_59 => exact fun _ _ _ h => h
  case yR_60_59 => (intro w hSw; (try dsimp only at hSw); go_simp; try with_reducible rfl)
  try simp only [Act.put, List.setIfInBounds_toArray, List.set_cons_zero, List.set_cons_succ]
  refine wpAnyH_take (i := 60) (oi := ?oR_61_60) (v := ?vR_61_60) ?eR_61_60 (by kernel_rfl) (by kernel_rfl) (by kernel_rfl) ?qR_61_60 (Or.inl ⟨?wR_61_60, ?yR_61_60⟩) (by assumption) ?rR_61_60
  case eR_61_60 => simp only [List.getElem?_toArray, List.getElem?_cons_succ, List.getElem?_cons_zero]; rfl
  case wR_61_60 => rfl
  case qR_61_60 => exact fun _ _ _ h => h
  case yR_61_60 => (intro w hSw; (try dsimp only at hSw); go_simp; try with_reducible rfl)
  try simp only [Act.put, List.setIfInBounds_toArray, List.set_cons_zero, List.set_cons_succ]
  refine wpAnyH_done (by kernel_rfl) ?_ _
  go_wp2_with fail
  go_ret
  have hend : Below w.heap.size w q10 := HWc.out.trans (D11.mono HWc.out.size)
  exact ⟨rfl, by first | exact hend | (rw [← HBB.out]; exact hend)⟩
end Go.Proofs.Ytkcohhldmhdcfaa
