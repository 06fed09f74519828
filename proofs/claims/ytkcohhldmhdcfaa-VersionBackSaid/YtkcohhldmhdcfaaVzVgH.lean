/- The kit's Version and Edit, of the same. -/
import Derived.Test.YtkcohhldmhdcfaaVzVgG
namespace Go.Proofs.Ytkcohhldmhdcfaa
open Go.RowKit

set_option maxRecDepth 100000 in
set_option maxHeartbeats 2000000 in
theorem kversion_same (F G : Nat → Prop) (v : Ver) (lv lv' : Value) (w : World) (h1 : Rw (rowK filK) F w lv v.levels) (h2 : Rw (rowK filK) G w lv' v.levels) (hle : v.levels.length ≤ 1000000) (hfew : ∀ i, i < v.levels.length → (lat v.levels i).length ≤ 1000000) :
    Calls Try.prog 41 #[.agg (verCells v lv).toArray, .agg (verCells v lv').toArray] w fun e w' => e = .returned (.bool true) ∧ Below w.heap.size w w' := by
  obtain ⟨xa, ca, rfl⟩ := h1.isSlice
  obtain ⟨ya, cb, rfl⟩ := h2.isSlice
  have HA := Lib.hid h1
  have HB := Lib.hid h2
  have HFW := Lib.hid hfew
  obtain ⟨m, hm⟩ : ∃ m, v.levels.length = m := ⟨_, rfl⟩
  have HM := Lib.hid hm
  rw [hm] at HA HB hle HFW ⊢
  clear h1 h2 hm hfew
  unfold verCells
  go_enter Try.func41, Try.ntmps41
  go_upto_region 1 with fail
  refine wp_gen fun w1 hw1 => ?_
  have HX1 : Hid (Blk w1 w.heap.size (verCells v (.slice xa m ca)).toArray 25) := by rw [hw1]; exact (Blk.at_new rfl rfl).alloc _
  have HY1 : Hid (Blk w1 (w.heap.size + 1) (verCells v (.slice ya m cb)).toArray 25) := by rw [hw1]; exact blk_two _ _ _ _
  have HW1 : Hid (Below w.heap.size w w1) := by rw [hw1]; exact below_two _ _ _
  clear hw1
  obtain ⟨b1, hb1⟩ : ∃ b, w.heap.size = b := ⟨_, rfl⟩
  obtain ⟨b2, hb2⟩ : ∃ b, w.heap.size + 1 = b := ⟨_, rfl⟩
  rw [hb2] at HY1 ⊢
  rw [hb1] at HX1 ⊢
  have HBB := Lib.hid hb1
  clear hb1 hb2
  have x0 : w1.cell? ⟨b1, 0, none⟩ = some (.slice xa m ca) := HX1.out.cell rfl
  have x1 : w1.cell? ⟨b1, 1, none⟩ = some (.int .u64 v.next) := HX1.out.cell rfl
  have x2 : w1.cell? ⟨b1, 2, none⟩ = some (.int .u64 v.seq) := HX1.out.cell rfl
  have x3 : w1.cell? ⟨b1, 3, none⟩ = some (.int .u64 v.log) := HX1.out.cell rfl
  have y0 : w1.cell? ⟨b2, 0, none⟩ = some (.slice ya m cb) := HY1.out.cell rfl
  have y1 : w1.cell? ⟨b2, 1, none⟩ = some (.int .u64 v.next) := HY1.out.cell rfl
  have y2 : w1.cell? ⟨b2, 2, none⟩ = some (.int .u64 v.seq) := HY1.out.cell rfl
  have y3 : w1.cell? ⟨b2, 3, none⟩ = some (.int .u64 v.log) := HY1.out.cell rfl
  go_wp2_with fail
  clear x0 x1 x2 x3 y0 y1 y2 y3
  go_loopw [5] (fun iv wr => ∃ i : Nat, iv = .int .i64 (i : Int) ∧ i ≤ m ∧ Hid (Below w1.heap.size w1 wr)) (fun iv _ => m - (intOf iv).toNat)
  case atStart => exact ⟨0, rfl, by omega, Below.refl _ _⟩
  case round =>
    obtain ⟨i, rfl, hi, HBW⟩ := hrel
    have HWr : Hid (Below w.heap.size w wr) := HW1.out.trans (HBW.out.mono HW1.out.size)
    have x0 : wr.cell? ⟨b1, 0, none⟩ = some (.slice xa m ca) := (HX1.out.below HBW.out HX1.out.lt).cell rfl
    by_cases him : i < m
    · have t1 : (i : Int) < (m : Int) := by omega
      have t2 : 0 ≤ (i : Int) := by omega
      have hil : i < v.levels.length := by rw [HM.out]; exact him
      have HX2 := Lib.hid (HX1.out.below HBW.out HX1.out.lt)
      have HY2 := Lib.hid (HY1.out.below HBW.out HY1.out.lt)
      obtain ⟨ba, oa, capa, ea, _, hba, hca⟩ := levs_at (HA.out.below HWr.out) (by omega)
      obtain ⟨u, hu, hcu⟩ := hca i hil
      rw [HM.out] at ea
      injection ea with e1 e2 e3
      subst e1 e3
      obtain ⟨ua, uc, rfl⟩ := hu.isSlice
      clear e2 hca
      obtain ⟨bb, obb, capb, eb, _, hbb, hcb⟩ := levs_at (HB.out.below HWr.out) (by omega)
      obtain ⟨q, hq, hcq⟩ := hcb i hil
      rw [HM.out] at eb
      injection eb with e1 e2 e3
      subst e1 e3
      obtain ⟨qa, qc, rfl⟩ := hq.isSlice
      have HU := Lib.hid hu
      have HQ := Lib.hid hq
      have HFI := Lib.hid (HFW.out i him)
      obtain ⟨l, hl⟩ : ∃ l, lat v.levels i = l := ⟨_, rfl⟩
      rw [hl] at HU HQ HFI hcu hcq
      have HKP : Hid (∀ W, Below wr.heap.size wr W → (W.cell? ⟨b1, 0, none⟩ = some (.slice (some ⟨ba, oa, none⟩) m ca) ∧ W.cell? ⟨b2, 0, none⟩ = some (.slice (some ⟨bb, obb, none⟩) m cb) ∧ W.cell? ⟨ba, oa + i, none⟩ = some (.slice ua l.length uc) ∧ W.cell? ⟨bb, obb + i, none⟩ = some (.slice qa l.length qc))) := fun W hb => ⟨(HX2.out.below hb HX2.out.lt).cell rfl, (HY2.out.below hb HY2.out.lt).cell rfl, (hb.cell (p := ⟨ba, oa + i, none⟩) hba).trans hcu, (hb.cell (p := ⟨bb, obb + i, none⟩) hbb).trans hcq⟩
      have D0 : Below wr.heap.size wr wr.drew := below_drew (Below.refl _ _)
      clear e2 hcb hu hq hba hbb hil hl hcu hcq
      go_upto_region 6 with fail
      clear x0
      refine wp_region_held_drew (S := fun W => (W.cell? ⟨b1, 0, none⟩ = some (.slice (some ⟨ba, oa, none⟩) m ca) ∧ W.cell? ⟨b2, 0, none⟩ = some (.slice (some ⟨bb, obb, none⟩) m cb) ∧ W.cell? ⟨ba, oa + i, none⟩ = some (.slice ua l.length uc) ∧ W.cell? ⟨bb, obb + i, none⟩ = some (.slice qa l.length qc))) (by kernel_rfl) (HKP.out _ D0) (fun hHeld => ?_)
      refine wpAnyH_take (i := 0) (oi := ?oA_1_0) (v := ?vA_1_0) ?eA_1_0 (by kernel_rfl) (by kernel_rfl) (by kernel_rfl) ?qA_1_0 (Or.inl ⟨?wA_1_0, ?yA_1_0⟩) (by assumption) ?rA_1_0
      case eA_1_0 => simp only [List.getElem?_toArray, List.getElem?_cons_zero]; rfl
      case wA_1_0 => rfl
      case qA_1_0 => exact fun _ _ _ h => h
      case yA_1_0 => (intro w hSw; (try dsimp only at hSw); go_simp; try with_reducible rfl)
      try simp only [Act.put, List.setIfInBounds_toArray, List.set_cons_zero, List.set_cons_succ]
      refine wpAnyH_take (i := 1) (oi := ?oA_2_1) (v := ?vA_2_1) ?eA_2_1 (by kernel_rfl) (by kernel_rfl) (by kernel_rfl) ?qA_2_1 (Or.inl ⟨?wA_2_1, ?yA_2_1⟩) (by assumption) ?rA_2_1
      case eA_2_1 => simp only [List.getElem?_toArray, List.getElem?_cons_succ, List.getElem?_cons_zero]; rfl
      case wA_2_1 => rfl
      case qA_2_1 => exact fun _ _ _ h => h
      case yA_2_1 => (intro w hSw; (try dsimp only at hSw); go_simp; try with_reducible rfl)
      try simp only [Act.put, List.setIfInBounds_toArray, List.set_cons_zero, List.set_cons_succ]
      refine wpAnyH_take (i := 2) (oi := ?oA_3_2) (v := ?vA_3_2) ?eA_3_2 (by kernel_rfl) (by kernel_rfl) (by kernel_rfl) ?qA_3_2 (Or.inl ⟨?wA_3_2, ?yA_3_2⟩) (by assumption) ?rA_3_2
      case eA_3_2 => simp only [List.getElem?_toArray, List.getElem?_cons_succ, List.getElem?_cons_zero]; rfl
      case wA_3_2 => rfl
      case qA_3_2 => exact fun _ _ _ h => h
      case yA_3_2 => (intro w hSw; (try dsimp only at hSw); go_simp; try with_reducible rfl)
      try simp only [Act.put, List.setIfInBounds_toArray, List.set_cons_zero, List.set_cons_succ]
      refine wpAnyH_take (i := 3) (oi := ?oA_4_3) (v := ?vA_4_3) ?eA_4_3 (by kernel_rfl) (by kernel_rfl) (by kernel_rfl) ?qA_4_3 (Or.inl ⟨?wA_4_3, ?yA_4_3⟩) (by assumption) ?rA_4_3
      case eA_4_3 => simp only [List.getElem?_toArray, List.getElem?_cons_succ, List.getElem?_cons_zero]; rfl
      case wA_4_3 => rfl
      case qA_4_3 => exact fun _ _ _ h => h
      case yA_4_3 => (intro w hSw; (try dsimp only at hSw); go_simp; try with_reducible rfl)
      try simp only [Act.put, List.setIfInBounds_toArray, List.set_cons_zero, List.set_cons_succ]
      refine wpAnyH_take (i := 4) (oi := ?oA_5_4) (v := ?vA_5_4) ?eA_5_4 (by kernel_rfl) (by kernel_rfl) (by kernel_rfl) ?qA_5_4 (Or.inl ⟨?wA_5_4, ?yA_5_4⟩) (by assumption) ?rA_5_4
      case eA_5_4 => simp only [List.getElem?_toArray, List.getElem?_cons_succ, List.getElem?_cons_zero]; rfl
      case wA_5_4 => rfl
      case qA_5_4 => exact fun _ _ _ h => h
      case yA_5_4 => (intro w hSw; (try dsimp only at hSw); go_simp; try with_reducible rfl)
      try simp only [Act.put, List.setIfInBounds_toArray, List.set_cons_zero, List.set_cons_succ]
      refine wpAnyH_take (i := 5) (oi := ?oA_6_5) (v := ?vA_6_5) ?eA_6_5 (by kernel_rfl) (by kernel_rfl) (by kernel_rfl) ?qA_6_5 (Or.inl ⟨?wA_6_5, ?yA_6_5⟩) (by assumption) ?rA_6_5
      case eA_6_5 => simp only [List.getElem?_toArray, List.getElem?_cons_succ, List.getElem?_cons_zero]; rfl
      case wA_6_5 => rfl
      case qA_6_5 => exact fun _ _ _ h => h
      case yA_6_5 => (intro w hSw; (try dsimp only at hSw); go_simp; try with_reducible rfl)
      try simp only [Act.put, List.setIfInBounds_toArray, List.set_cons_zero, List.set_cons_succ]
      refine wpAnyH_take (i := 6) (oi := ?oA_7_6) (v := ?vA_7_6) ?eA_7_6 (by kernel_rfl) (by kernel_rfl) (by kernel_rfl) ?qA_7_6 (Or.inl ⟨?wA_7_6, ?yA_7_6⟩) (by assumption) ?rA_7_6
      case eA_7_6 => simp only [List.getElem?_toArray, List.getElem?_cons_succ, List.getElem?_cons_zero]; rfl
      case wA_7_6 => rfl
      case qA_7_6 => exact fun _ _ _ h => h
      case yA_7_6 => (intro w hSw; (try dsimp only at hSw); go_simp; try with_reducible rfl)
      try simp only [Act.put, List.setIfInBounds_toArray, List.set_cons_zero, List.set_cons_succ]
      refine wpAnyH_take (i := 7) (oi := ?oA_8_7) (v := ?vA_8_7) ?eA_8_7 (by kernel_rfl) (by kernel_rfl) (by kernel_rfl) ?qA_8_7 (Or.inl ⟨?wA_8_7, ?yA_8_7⟩) (by assumption) ?rA_8_7
      case eA_8_7 => simp only [List.getElem?_toArray, List.getElem?_cons_succ, List.getElem?_cons_zero]; rfl
      case wA_8_7 => rfl
      case qA_8_7 => exact fun _ _ _ h => h
      case yA_8_7 => (intro w hSw; (try dsimp only at hSw); go_simp; try with_reducible rfl)
      try simp only [Act.put, List.setIfInBounds_toArray, List.set_cons_zero, List.set_cons_succ]
      refine wpAnyH_take (i := 8) (oi := ?oA_9_8) (v := ?vA_9_8) ?eA_9_8 (by kernel_rfl) (by kernel_rfl) (by kernel_rfl) ?qA_9_8 (Or.inl ⟨?wA_9_8, ?yA_9_8⟩) (by assumption) ?rA_9_8
      case eA_9_8 => simp only [List.getElem?_toArray, List.getElem?_cons_succ, List.getElem?_cons_zero]; rfl
      case wA_9_8 => rfl
      case qA_9_8 => exact fun _ _ _ h => h
      case yA_9_8 => (intro w hSw; (try dsimp only at hSw); go_simp; try with_reducible rfl)
      try simp only [Act.put, List.setIfInBounds_toArray, List.set_cons_zero, List.set_cons_succ]
      refine wpAnyH_take (i := 9) (oi := ?oA_10_9) (v := ?vA_10_9) ?eA_10_9 (by kernel_rfl) (by kernel_rfl) (by kernel_rfl) ?qA_10_9 (Or.inl ⟨?wA_10_9, ?yA_10_9⟩) (by assumption) ?rA_10_9
      case eA_10_9 => simp only [List.getElem?_toArray, List.getElem?_cons_succ, List.getElem?_cons_zero]; rfl
      case wA_10_9 => rfl
      case qA_10_9 => exact fun _ _ _ h => h
      case yA_10_9 => (intro w hSw; (try dsimp only at hSw); go_simp; try with_reducible rfl)
      try simp only [Act.put, List.setIfInBounds_toArray, List.set_cons_zero, List.set_cons_succ]
      have hOld := hHeld
      clear hHeld
      refine wpAnyH_ready (rs := [10]) (by kernel_rfl) (by simp) ?_
      refine AllReadyH.cons (o := ?oA_11_10) ?eA_11_10 (fun K hK => ?_) AllReadyH.nil
      case eA_11_10 => simp only [List.getElem?_toArray, List.getElem?_cons_succ, List.getElem?_cons_zero]; rfl
      go_simp
      (go_at_call 43; refine Calls.mono (kfiles_same _ _ _ _ l _ (HU.out.below D0) (HQ.out.below D0) HFI.out) ?_; rintro _ x9 ⟨rfl, hb9⟩; have D1 : Below wr.heap.size wr x9 := D0.trans (hb9.mono D0.size); clear hb9)
      try go_wp2_with fail
      refine hK.out _ _ (HKP.out _ D1) (fun hHeld => ?_)
      clear hK hOld
      try simp only [Act.put, List.setIfInBounds_toArray, List.set_cons_zero, List.set_cons_succ]
      refine wpAnyH_take (i := 11) (oi := ?oA_12_11) (v := ?vA_12_11) ?eA_12_11 (by kernel_rfl) (by kernel_rfl) (by kernel_rfl) ?qA_12_11 (Or.inl ⟨?wA_12_11, ?yA_12_11⟩) (by assumption) ?rA_12_11
      case eA_12_11 => simp only [List.getElem?_toArray, List.getElem?_cons_succ, List.getElem?_cons_zero]; rfl
      case wA_12_11 => rfl
      case qA_12_11 => exact fun _ _ _ h => h
      case yA_12_11 => (intro w hSw; (try dsimp only at hSw); go_simp; try with_reducible rfl)
      try simp only [Act.put, List.setIfInBounds_toArray, List.set_cons_zero, List.set_cons_succ]
      refine wpAnyH_done (by kernel_rfl) ?_ _
      have HB3 : Hid (Below w1.heap.size w1 x9) := HBW.out.trans (D1.mono HBW.out.size)
      clear D0 D1 HKP hHeld HBW HWr HX2 HY2 HU HQ
      go_wp2_with fail
      go_roundw
      · exact ⟨i + 1, by go_num, by omega, HB3.out⟩
      · simp only [intOf]; omega
    · have t1 : ¬ (i : Int) < (m : Int) := by omega
      go_wp2_with fail
      go_ret
      exact ⟨rfl, by first | exact HWr.out | (rw [← HBB.out]; exact HWr.out)⟩
set_option maxRecDepth 100000 in
set_option maxHeartbeats 2000000 in
theorem kedit_same (F G : Nat → Prop) (e : Edi) (dv av dv' av' : Value) (w : World) (h1 : EdiAt F w e dv av) (h2 : EdiAt G w e dv' av') (hd : e.drops.length ≤ 1000000) (ha : e.adds.length ≤ 1000000) :
    Calls Try.prog 42 #[.agg (ediCells e dv av).toArray, .agg (ediCells e dv' av').toArray] w fun x w' => x = .returned (.bool true) ∧ Below w.heap.size w w' := by
  obtain ⟨xa, ca, rfl⟩ := h1.drops.isSlice
  obtain ⟨ya, cb, rfl⟩ := h2.drops.isSlice
  obtain ⟨za, cz, rfl⟩ := h1.adds.isSlice
  obtain ⟨qa, cq, rfl⟩ := h2.adds.isSlice
  have HA := Lib.hid h1
  have HB := Lib.hid h2
  obtain ⟨nd, hnd⟩ : ∃ m, e.drops.length = m := ⟨_, rfl⟩
  obtain ⟨na, hna⟩ : ∃ m, e.adds.length = m := ⟨_, rfl⟩
  have HND := Lib.hid hnd
  have HNA := Lib.hid hna
  rw [hnd, hna] at HA HB ⊢
  rw [hnd] at hd
  rw [hna] at ha
  clear h1 h2 hnd hna
  unfold ediCells
  go_enter Try.func42, Try.ntmps42
  go_upto_region 1 with fail
  refine wp_gen fun w1 hw1 => ?_
  have HX1 : Hid (Blk w1 w.heap.size (ediCells e (.slice xa nd ca) (.slice za na cz)).toArray 57) := by rw [hw1]; exact (Blk.at_new rfl rfl).alloc _
  have HY1 : Hid (Blk w1 (w.heap.size + 1) (ediCells e (.slice ya nd cb) (.slice qa na cq)).toArray 57) := by rw [hw1]; exact blk_two _ _ _ _
  have HW1 : Hid (Below w.heap.size w w1) := by rw [hw1]; exact below_two _ _ _
  clear hw1
  obtain ⟨b1, hb1⟩ : ∃ b, w.heap.size = b := ⟨_, rfl⟩
  obtain ⟨b2, hb2⟩ : ∃ b, w.heap.size + 1 = b := ⟨_, rfl⟩
  rw [hb2] at HY1 ⊢
  rw [hb1] at HX1 ⊢
  have HBB := Lib.hid hb1
  clear hb1 hb2
  have x0 : w1.cell? ⟨b1, 0, none⟩ = some (.slice xa nd ca) := HX1.out.cell rfl
  have x1 : w1.cell? ⟨b1, 1, none⟩ = some (.slice za na cz) := HX1.out.cell rfl
  have x2 : w1.cell? ⟨b1, 2, none⟩ = some (.int .u64 e.next) := HX1.out.cell rfl
  have x3 : w1.cell? ⟨b1, 3, none⟩ = some (.int .u64 e.seq) := HX1.out.cell rfl
  have x4 : w1.cell? ⟨b1, 4, none⟩ = some (.int .u64 e.log) := HX1.out.cell rfl
  have y0 : w1.cell? ⟨b2, 0, none⟩ = some (.slice ya nd cb) := HY1.out.cell rfl
  have y1 : w1.cell? ⟨b2, 1, none⟩ = some (.slice qa na cq) := HY1.out.cell rfl
  have y2 : w1.cell? ⟨b2, 2, none⟩ = some (.int .u64 e.next) := HY1.out.cell rfl
  have y3 : w1.cell? ⟨b2, 3, none⟩ = some (.int .u64 e.seq) := HY1.out.cell rfl
  have y4 : w1.cell? ⟨b2, 4, none⟩ = some (.int .u64 e.log) := HY1.out.cell rfl
  go_wp2_with fail
  clear x0 x1 x2 x3 x4 y0 y1 y2 y3 y4
  go_loopw [5] (fun iv wr => ∃ i : Nat, iv = .int .i64 (i : Int) ∧ i ≤ nd ∧ Hid (Below w1.heap.size w1 wr)) (fun iv _ => nd - (intOf iv).toNat)
  case atStart => exact ⟨0, rfl, by omega, Below.refl _ _⟩
  case round =>
    obtain ⟨i, rfl, hi, HBW⟩ := hrel
    have HWr : Hid (Below w.heap.size w wr) := HW1.out.trans (HBW.out.mono HW1.out.size)
    have x0 : wr.cell? ⟨b1, 0, none⟩ = some (.slice xa nd ca) := (HX1.out.below HBW.out HX1.out.lt).cell rfl
    by_cases him : i < nd
    · have t1 : (i : Int) < (nd : Int) := by omega
      have t2 : 0 ≤ (i : Int) := by omega
      have hil : i < e.drops.length := by rw [HND.out]; exact him
      have y0 : wr.cell? ⟨b2, 0, none⟩ = some (.slice ya nd cb) := (HY1.out.below HBW.out HY1.out.lt).cell rfl
      obtain ⟨ba, oa, capa, ea, _, hba, hca⟩ := drops_at (HA.out.drops.below HWr.out) (by omega)
      obtain ⟨_, _, a0, a1⟩ := hca i hil
      rw [HND.out] at ea
      injection ea with e1 e2 e3
      subst e1 e3
      clear e2 hca
      obtain ⟨bb, obb, capb, eb, _, hbb, hcb⟩ := drops_at (HB.out.drops.below HWr.out) (by omega)
      obtain ⟨_, _, c0, c1⟩ := hcb i hil
      rw [HND.out] at eb
      injection eb with e1 e2 e3
      subst e1 e3
      clear e2 hcb hil hba hbb
      obtain ⟨p1, hp1⟩ : ∃ x, (dat e.drops i).1 = x := ⟨_, rfl⟩
      obtain ⟨p2, hp2⟩ : ∃ x, (dat e.drops i).2 = x := ⟨_, rfl⟩
      rw [hp1] at a0 c0
      rw [hp2] at a1 c1
      clear hp1 hp2
      go_wp2_with fail
      go_quiet (fail)
      all_goals
        go_wp2_with fail
        go_roundw
        · exact ⟨i + 1, by go_num, by omega, below_dn HBW.out _⟩
        · simp only [intOf]; omega
    · have t1 : ¬ (i : Int) < (nd : Int) := by omega
      go_wp2_with fail
      clear x0 t1
      generalize wr = wd at *
      go_loopw [6] (fun iv wr => ∃ i : Nat, iv = .int .i64 (i : Int) ∧ i ≤ na ∧ Hid (Below w1.heap.size w1 wr)) (fun iv _ => na - (intOf iv).toNat)
      case atStart => exact ⟨0, rfl, by omega, HBW.out⟩
      case round =>
        obtain ⟨i, rfl, hi, HBW⟩ := hrel
        have HWr : Hid (Below w.heap.size w wr) := HW1.out.trans (HBW.out.mono HW1.out.size)
        have x1 : wr.cell? ⟨b1, 1, none⟩ = some (.slice za na cz) := (HX1.out.below HBW.out HX1.out.lt).cell rfl
        by_cases him : i < na
        · have t1 : (i : Int) < (na : Int) := by omega
          have t2 : 0 ≤ (i : Int) := by omega
          have hil : i < e.adds.length := by rw [HNA.out]; exact him
          have HX2 := Lib.hid (HX1.out.below HBW.out HX1.out.lt)
          have HY2 := Lib.hid (HY1.out.below HBW.out HY1.out.lt)
          obtain ⟨ba, oa, capa, ea, _, hba, hca⟩ := adds_at (HA.out.adds.below HWr.out) (by omega)
          obtain ⟨al, am, _, g1, g2, _, hc7⟩ := hca i hil
          rw [HNA.out] at ea
          injection ea with e1 e2 e3
          subst e1 e3
          clear e2 hca
          obtain ⟨bb, obb, capb, eb, _, hbb, hcb⟩ := adds_at (HB.out.adds.below HWr.out) (by omega)
          obtain ⟨bl, bm, _, k1, k2, _, hd7⟩ := hcb i hil
          rw [HNA.out] at eb
          injection eb with e1 e2 e3
          subst e1 e3
          clear e2 hcb hil
          obtain ⟨a, haa⟩ : ∃ x, adat e.adds i = x := ⟨_, rfl⟩
          rw [haa] at g1 g2 hc7 k1 k2 hd7
          obtain ⟨lev, f⟩ := a
          have g1 : Bytes _ wr al f.least := g1
          have g2 : Bytes _ wr am f.most := g2
          have k1 : Bytes _ wr bl f.least := k1
          have k2 : Bytes _ wr bm f.most := k2
          obtain ⟨a1, n1, rfl⟩ := g1.isSlice
          obtain ⟨a2, n2, rfl⟩ := g2.isSlice
          obtain ⟨a3, n3, rfl⟩ := k1.isSlice
          obtain ⟨a4, n4, rfl⟩ := k2.isSlice
          have HG1 := Lib.hid g1
          have HG2 := Lib.hid g2
          have HK1 := Lib.hid k1
          have HK2 := Lib.hid k2
          have HKP : Hid (∀ W, Below wr.heap.size wr W → (W.cell? ⟨b1, 1, none⟩ = some (.slice (some ⟨ba, oa, none⟩) na cz) ∧ W.cell? ⟨b2, 1, none⟩ = some (.slice (some ⟨bb, obb, none⟩) na cq) ∧ W.cell? ⟨ba, oa + i * 7, none⟩ = some (.int .i64 lev) ∧ W.cell? ⟨ba, oa + i * 7 + 1, none⟩ = some (.int .u64 f.num) ∧ W.cell? ⟨ba, oa + i * 7 + 2, none⟩ = some (.int .i64 f.size) ∧ W.cell? ⟨ba, oa + i * 7 + 3, none⟩ = some (.slice a1 f.least.length n1) ∧ W.cell? ⟨ba, oa + i * 7 + 4, none⟩ = some (.slice a2 f.most.length n2) ∧ W.cell? ⟨ba, oa + i * 7 + 5, none⟩ = some (.int .i64 f.ents) ∧ W.cell? ⟨ba, oa + i * 7 + 6, none⟩ = some (.int .u64 f.mseq) ∧ W.cell? ⟨bb, obb + i * 7, none⟩ = some (.int .i64 lev) ∧ W.cell? ⟨bb, obb + i * 7 + 1, none⟩ = some (.int .u64 f.num) ∧ W.cell? ⟨bb, obb + i * 7 + 2, none⟩ = some (.int .i64 f.size) ∧ W.cell? ⟨bb, obb + i * 7 + 3, none⟩ = some (.slice a3 f.least.length n3) ∧ W.cell? ⟨bb, obb + i * 7 + 4, none⟩ = some (.slice a4 f.most.length n4) ∧ W.cell? ⟨bb, obb + i * 7 + 5, none⟩ = some (.int .i64 f.ents) ∧ W.cell? ⟨bb, obb + i * 7 + 6, none⟩ = some (.int .u64 f.mseq))) := fun W hb => by
            obtain ⟨p0, p1, p2, p3, p4, p5, p6⟩ := hc7.keep hb hba
            obtain ⟨r0, r1, r2, r3, r4, r5, r6⟩ := hd7.keep hb hbb
            exact ⟨(HX2.out.below hb HX2.out.lt).cell rfl, (HY2.out.below hb HY2.out.lt).cell rfl, p0, p1, p2, p3, p4, p5, p6, r0, r1, r2, r3, r4, r5, r6⟩
          have D0 : Below wr.heap.size wr wr.drew := below_drew (Below.refl _ _)
          clear haa g1 g2 k1 k2 hc7 hd7 hba hbb
          go_upto_region 11 with fail
          clear x1
          refine wp_region_held_drew (S := fun W => (W.cell? ⟨b1, 1, none⟩ = some (.slice (some ⟨ba, oa, none⟩) na cz) ∧ W.cell? ⟨b2, 1, none⟩ = some (.slice (some ⟨bb, obb, none⟩) na cq) ∧ W.cell? ⟨ba, oa + i * 7, none⟩ = some (.int .i64 lev) ∧ W.cell? ⟨ba, oa + i * 7 + 1, none⟩ = some (.int .u64 f.num) ∧ W.cell? ⟨ba, oa + i * 7 + 2, none⟩ = some (.int .i64 f.size) ∧ W.cell? ⟨ba, oa + i * 7 + 3, none⟩ = some (.slice a1 f.least.length n1) ∧ W.cell? ⟨ba, oa + i * 7 + 4, none⟩ = some (.slice a2 f.most.length n2) ∧ W.cell? ⟨ba, oa + i * 7 + 5, none⟩ = some (.int .i64 f.ents) ∧ W.cell? ⟨ba, oa + i * 7 + 6, none⟩ = some (.int .u64 f.mseq) ∧ W.cell? ⟨bb, obb + i * 7, none⟩ = some (.int .i64 lev) ∧ W.cell? ⟨bb, obb + i * 7 + 1, none⟩ = some (.int .u64 f.num) ∧ W.cell? ⟨bb, obb + i * 7 + 2, none⟩ = some (.int .i64 f.size) ∧ W.cell? ⟨bb, obb + i * 7 + 3, none⟩ = some (.slice a3 f.least.length n3) ∧ W.cell? ⟨bb, obb + i * 7 + 4, none⟩ = some (.slice a4 f.most.length n4) ∧ W.cell? ⟨bb, obb + i * 7 + 5, none⟩ = some (.int .i64 f.ents) ∧ W.cell? ⟨bb, obb + i * 7 + 6, none⟩ = some (.int .u64 f.mseq))) (by kernel_rfl) (HKP.out _ D0) (fun hHeld => ?_)
          refine wpAnyH_take (i := 0) (oi := ?oB_13_0) (v := ?vB_13_0) ?eB_13_0 (by kernel_rfl) (by kernel_rfl) (by kernel_rfl) ?qB_13_0 (Or.inl ⟨?wB_13_0, ?yB_13_0⟩) (by assumption) ?rB_13_0
          case eB_13_0 => simp only [List.getElem?_toArray, List.getElem?_cons_zero]; rfl
          case wB_13_0 => rfl
          case qB_13_0 => exact fun _ _ _ h => h
          case yB_13_0 => (intro w hSw; (try dsimp only at hSw); go_simp; try with_reducible rfl)
          try simp only [Act.put, List.setIfInBounds_toArray, List.set_cons_zero, List.set_cons_succ]
          refine wpAnyH_take (i := 1) (oi := ?oB_14_1) (v := ?vB_14_1) ?eB_14_1 (by kernel_rfl) (by kernel_rfl) (by kernel_rfl) ?qB_14_1 (Or.inl ⟨?wB_14_1, ?yB_14_1⟩) (by assumption) ?rB_14_1
          case eB_14_1 => simp only [List.getElem?_toArray, List.getElem?_cons_succ, List.getElem?_cons_zero]; rfl
          case wB_14_1 => rfl
          case qB_14_1 => exact fun _ _ _ h => h
          case yB_14_1 => (intro w hSw; (try dsimp only at hSw); go_simp; try with_reducible rfl)
          try simp only [Act.put, List.setIfInBounds_toArray, List.set_cons_zero, List.set_cons_succ]
          refine wpAnyH_take (i := 2) (oi := ?oB_15_2) (v := ?vB_15_2) ?eB_15_2 (by kernel_rfl) (by kernel_rfl) (by kernel_rfl) ?qB_15_2 (Or.inl ⟨?wB_15_2, ?yB_15_2⟩) (by assumption) ?rB_15_2
          case eB_15_2 => simp only [List.getElem?_toArray, List.getElem?_cons_succ, List.getElem?_cons_zero]; rfl
          case wB_15_2 => rfl
          case qB_15_2 => exact fun _ _ _ h => h
          case yB_15_2 => (intro w hSw; (try dsimp only at hSw); go_simp; try with_reducible rfl)
          try simp only [Act.put, List.setIfInBounds_toArray, List.set_cons_zero, List.set_cons_succ]
          refine wpAnyH_take (i := 3) (oi := ?oB_16_3) (v := ?vB_16_3) ?eB_16_3 (by kernel_rfl) (by kernel_rfl) (by kernel_rfl) ?qB_16_3 (Or.inl ⟨?wB_16_3, ?yB_16_3⟩) (by assumption) ?rB_16_3
          case eB_16_3 => simp only [List.getElem?_toArray, List.getElem?_cons_succ, List.getElem?_cons_zero]; rfl
          case wB_16_3 => rfl
          case qB_16_3 => exact fun _ _ _ h => h
          case yB_16_3 => (intro w hSw; (try dsimp only at hSw); go_simp; try with_reducible rfl)
          try simp only [Act.put, List.setIfInBounds_toArray, List.set_cons_zero, List.set_cons_succ]
          refine wpAnyH_take (i := 4) (oi := ?oB_17_4) (v := ?vB_17_4) ?eB_17_4 (by kernel_rfl) (by kernel_rfl) (by kernel_rfl) ?qB_17_4 (Or.inl ⟨?wB_17_4, ?yB_17_4⟩) (by assumption) ?rB_17_4
          case eB_17_4 => simp only [List.getElem?_toArray, List.getElem?_cons_succ, List.getElem?_cons_zero]; rfl
          case wB_17_4 => rfl
          case qB_17_4 => exact fun _ _ _ h => h
          case yB_17_4 => (intro w hSw; (try dsimp only at hSw); go_simp; try with_reducible rfl)
          try simp only [Act.put, List.setIfInBounds_toArray, List.set_cons_zero, List.set_cons_succ]
          refine wpAnyH_take (i := 5) (oi := ?oB_18_5) (v := ?vB_18_5) ?eB_18_5 (by kernel_rfl) (by kernel_rfl) (by kernel_rfl) ?qB_18_5 (Or.inl ⟨?wB_18_5, ?yB_18_5⟩) (by assumption) ?rB_18_5
          case eB_18_5 => simp only [List.getElem?_toArray, List.getElem?_cons_succ, List.getElem?_cons_zero]; rfl
          case wB_18_5 => rfl
          case qB_18_5 => exact fun _ _ _ h => h
          case yB_18_5 => (intro w hSw; (try dsimp only at hSw); go_simp; try with_reducible rfl)
          try simp only [Act.put, List.setIfInBounds_toArray, List.set_cons_zero, List.set_cons_succ]
          refine wpAnyH_take (i := 6) (oi := ?oB_19_6) (v := ?vB_19_6) ?eB_19_6 (by kernel_rfl) (by kernel_rfl) (by kernel_rfl) ?qB_19_6 (Or.inl ⟨?wB_19_6, ?yB_19_6⟩) (by assumption) ?rB_19_6
          case eB_19_6 => simp only [List.getElem?_toArray, List.getElem?_cons_succ, List.getElem?_cons_zero]; rfl
          case wB_19_6 => rfl
          case qB_19_6 => exact fun _ _ _ h => h
          case yB_19_6 => (intro w hSw; (try dsimp only at hSw); go_simp; try with_reducible rfl)
          try simp only [Act.put, List.setIfInBounds_toArray, List.set_cons_zero, List.set_cons_succ]
          refine wpAnyH_take (i := 7) (oi := ?oB_20_7) (v := ?vB_20_7) ?eB_20_7 (by kernel_rfl) (by kernel_rfl) (by kernel_rfl) ?qB_20_7 (Or.inl ⟨?wB_20_7, ?yB_20_7⟩) (by assumption) ?rB_20_7
          case eB_20_7 => simp only [List.getElem?_toArray, List.getElem?_cons_succ, List.getElem?_cons_zero]; rfl
          case wB_20_7 => rfl
          case qB_20_7 => exact fun _ _ _ h => h
          case yB_20_7 => (intro w hSw; (try dsimp only at hSw); go_simp; try with_reducible rfl)
          try simp only [Act.put, List.setIfInBounds_toArray, List.set_cons_zero, List.set_cons_succ]
          refine wpAnyH_take (i := 8) (oi := ?oB_21_8) (v := ?vB_21_8) ?eB_21_8 (by kernel_rfl) (by kernel_rfl) (by kernel_rfl) ?qB_21_8 (Or.inl ⟨?wB_21_8, ?yB_21_8⟩) (by assumption) ?rB_21_8
          case eB_21_8 => simp only [List.getElem?_toArray, List.getElem?_cons_succ, List.getElem?_cons_zero]; rfl
          case wB_21_8 => rfl
          case qB_21_8 => exact fun _ _ _ h => h
          case yB_21_8 => (intro w hSw; (try dsimp only at hSw); go_simp; try with_reducible rfl)
          try simp only [Act.put, List.setIfInBounds_toArray, List.set_cons_zero, List.set_cons_succ]
          refine wpAnyH_take (i := 9) (oi := ?oB_22_9) (v := ?vB_22_9) ?eB_22_9 (by kernel_rfl) (by kernel_rfl) (by kernel_rfl) ?qB_22_9 (Or.inl ⟨?wB_22_9, ?yB_22_9⟩) (by assumption) ?rB_22_9
          case eB_22_9 => simp only [List.getElem?_toArray, List.getElem?_cons_succ, List.getElem?_cons_zero]; rfl
          case wB_22_9 => rfl
          case qB_22_9 => exact fun _ _ _ h => h
          case yB_22_9 => (intro w hSw; (try dsimp only at hSw); go_simp; try with_reducible rfl)
          try simp only [Act.put, List.setIfInBounds_toArray, List.set_cons_zero, List.set_cons_succ]
          refine wpAnyH_take (i := 10) (oi := ?oB_23_10) (v := ?vB_23_10) ?eB_23_10 (by kernel_rfl) (by kernel_rfl) (by kernel_rfl) ?qB_23_10 (Or.inl ⟨?wB_23_10, ?yB_23_10⟩) (by assumption) ?rB_23_10
          case eB_23_10 => simp only [List.getElem?_toArray, List.getElem?_cons_succ, List.getElem?_cons_zero]; rfl
          case wB_23_10 => rfl
          case qB_23_10 => exact fun _ _ _ h => h
          case yB_23_10 => (intro w hSw; (try dsimp only at hSw); go_simp; try with_reducible rfl)
          try simp only [Act.put, List.setIfInBounds_toArray, List.set_cons_zero, List.set_cons_succ]
          refine wpAnyH_take (i := 11) (oi := ?oB_24_11) (v := ?vB_24_11) ?eB_24_11 (by kernel_rfl) (by kernel_rfl) (by kernel_rfl) ?qB_24_11 (Or.inl ⟨?wB_24_11, ?yB_24_11⟩) (by assumption) ?rB_24_11
          case eB_24_11 => simp only [List.getElem?_toArray, List.getElem?_cons_succ, List.getElem?_cons_zero]; rfl
          case wB_24_11 => rfl
          case qB_24_11 => exact fun _ _ _ h => h
          case yB_24_11 => (intro w hSw; (try dsimp only at hSw); go_simp; try with_reducible rfl)
          try simp only [Act.put, List.setIfInBounds_toArray, List.set_cons_zero, List.set_cons_succ]
          refine wpAnyH_take (i := 12) (oi := ?oB_25_12) (v := ?vB_25_12) ?eB_25_12 (by kernel_rfl) (by kernel_rfl) (by kernel_rfl) ?qB_25_12 (Or.inl ⟨?wB_25_12, ?yB_25_12⟩) (by assumption) ?rB_25_12
          case eB_25_12 => simp only [List.getElem?_toArray, List.getElem?_cons_succ, List.getElem?_cons_zero]; rfl
          case wB_25_12 => rfl
          case qB_25_12 => exact fun _ _ _ h => h
          case yB_25_12 => (intro w hSw; (try dsimp only at hSw); go_simp; try with_reducible rfl)
          try simp only [Act.put, List.setIfInBounds_toArray, List.set_cons_zero, List.set_cons_succ]
          refine wpAnyH_take (i := 13) (oi := ?oB_26_13) (v := ?vB_26_13) ?eB_26_13 (by kernel_rfl) (by kernel_rfl) (by kernel_rfl) ?qB_26_13 (Or.inl ⟨?wB_26_13, ?yB_26_13⟩) (by assumption) ?rB_26_13
          case eB_26_13 => simp only [List.getElem?_toArray, List.getElem?_cons_succ, List.getElem?_cons_zero]; rfl
          case wB_26_13 => rfl
          case qB_26_13 => exact fun _ _ _ h => h
          case yB_26_13 => (intro w hSw; (try dsimp only at hSw); go_simp; try with_reducible rfl)
          try simp only [Act.put, List.setIfInBounds_toArray, List.set_cons_zero, List.set_cons_succ]
          refine wpAnyH_take (i := 14) (oi := ?oB_27_14) (v := ?vB_27_14) ?eB_27_14 (by kernel_rfl) (by kernel_rfl) (by kernel_rfl) ?qB_27_14 (Or.inl ⟨?wB_27_14, ?yB_27_14⟩) (by assumption) ?rB_27_14
          case eB_27_14 => simp only [List.getElem?_toArray, List.getElem?_cons_succ, List.getElem?_cons_zero]; rfl
          case wB_27_14 => rfl
          case qB_27_14 => exact fun _ _ _ h => h
          case yB_27_14 => (intro w hSw; (try dsimp only at hSw); go_simp; try with_reducible rfl)
          try simp only [Act.put, List.setIfInBounds_toArray, List.set_cons_zero, List.set_cons_succ]
          refine wpAnyH_take (i := 15) (oi := ?oB_28_15) (v := ?vB_28_15) ?eB_28_15 (by kernel_rfl) (by kernel_rfl) (by kernel_rfl) ?qB_28_15 (Or.inl ⟨?wB_28_15, ?yB_28_15⟩) (by assumption) ?rB_28_15
          case eB_28_15 => simp only [List.getElem?_toArray, List.getElem?_cons_succ, List.getElem?_cons_zero]; rfl
          case wB_28_15 => rfl
          case qB_28_15 => exact fun _ _ _ h => h
          case yB_28_15 => (intro w hSw; (try dsimp only at hSw); go_simp; try with_reducible rfl)
          try simp only [Act.put, List.setIfInBounds_toArray, List.set_cons_zero, List.set_cons_succ]
          refine wpAnyH_take (i := 16) (oi := ?oB_29_16) (v := ?vB_29_16) ?eB_29_16 (by kernel_rfl) (by kernel_rfl) (by kernel_rfl) ?qB_29_16 (Or.inl ⟨?wB_29_16, ?yB_29_16⟩) (by assumption) ?rB_29_16
          case eB_29_16 => simp only [List.getElem?_toArray, List.getElem?_cons_succ, List.getElem?_cons_zero]; rfl
          case wB_29_16 => rfl
          case qB_29_16 => exact fun _ _ _ h => h
          case yB_29_16 => (intro w hSw; (try dsimp only at hSw); go_simp; try with_reducible rfl)
          try simp only [Act.put, List.setIfInBounds_toArray, List.set_cons_zero, List.set_cons_succ]
          refine wpAnyH_take (i := 17) (oi := ?oB_30_17) (v := ?vB_30_17) ?eB_30_17 (by kernel_rfl) (by kernel_rfl) (by kernel_rfl) ?qB_30_17 (Or.inl ⟨?wB_30_17, ?yB_30_17⟩) (by assumption) ?rB_30_17
          case eB_30_17 => simp only [List.getElem?_toArray, List.getElem?_cons_succ, List.getElem?_cons_zero]; rfl
          case wB_30_17 => rfl
          case qB_30_17 => exact fun _ _ _ h => h
          case yB_30_17 => (intro w hSw; (try dsimp only at hSw); go_simp; try with_reducible rfl)
          try simp only [Act.put, List.setIfInBounds_toArray, List.set_cons_zero, List.set_cons_succ]
          refine wpAnyH_take (i := 18) (oi := ?oB_31_18) (v := ?vB_31_18) ?eB_31_18 (by kernel_rfl) (by kernel_rfl) (by kernel_rfl) ?qB_31_18 (Or.inl ⟨?wB_31_18, ?yB_31_18⟩) (by assumption) ?rB_31_18
          case eB_31_18 => simp only [List.getElem?_toArray, List.getElem?_cons_succ, List.getElem?_cons_zero]; rfl
          case wB_31_18 => rfl
          case qB_31_18 => exact fun _ _ _ h => h
          case yB_31_18 => (intro w hSw; (try dsimp only at hSw); go_simp; try with_reducible rfl)
          try simp only [Act.put, List.setIfInBounds_toArray, List.set_cons_zero, List.set_cons_succ]
          refine wpAnyH_take (i := 19) (oi := ?oB_32_19) (v := ?vB_32_19) ?eB_32_19 (by kernel_rfl) (by kernel_rfl) (by kernel_rfl) ?qB_32_19 (Or.inl ⟨?wB_32_19, ?yB_32_19⟩) (by assumption) ?rB_32_19
          case eB_32_19 => simp only [List.getElem?_toArray, List.getElem?_cons_succ, List.getElem?_cons_zero]; rfl
          case wB_32_19 => rfl
          case qB_32_19 => exact fun _ _ _ h => h
          case yB_32_19 => (intro w hSw; (try dsimp only at hSw); go_simp; try with_reducible rfl)
          try simp only [Act.put, List.setIfInBounds_toArray, List.set_cons_zero, List.set_cons_succ]
          refine wpAnyH_take (i := 20) (oi := ?oB_33_20) (v := ?vB_33_20) ?eB_33_20 (by kernel_rfl) (by kernel_rfl) (by kernel_rfl) ?qB_33_20 (Or.inl ⟨?wB_33_20, ?yB_33_20⟩) (by assumption) ?rB_33_20
          case eB_33_20 => simp only [List.getElem?_toArray, List.getElem?_cons_succ, List.getElem?_cons_zero]; rfl
          case wB_33_20 => rfl
          case qB_33_20 => exact fun _ _ _ h => h
          case yB_33_20 => (intro w hSw; (try dsimp only at hSw); go_simp; try with_reducible rfl)
          try simp only [Act.put, List.setIfInBounds_toArray, List.set_cons_zero, List.set_cons_succ]
          refine wpAnyH_take (i := 21) (oi := ?oB_34_21) (v := ?vB_34_21) ?eB_34_21 (by kernel_rfl) (by kernel_rfl) (by kernel_rfl) ?qB_34_21 (Or.inl ⟨?wB_34_21, ?yB_34_21⟩) (by assumption) ?rB_34_21
          case eB_34_21 => simp only [List.getElem?_toArray, List.getElem?_cons_succ, List.getElem?_cons_zero]; rfl
          case wB_34_21 => rfl
          case qB_34_21 => exact fun _ _ _ h => h
          case yB_34_21 => (intro w hSw; (try dsimp only at hSw); go_simp; try with_reducible rfl)
          try simp only [Act.put, List.setIfInBounds_toArray, List.set_cons_zero, List.set_cons_succ]
          refine wpAnyH_take (i := 22) (oi := ?oB_35_22) (v := ?vB_35_22) ?eB_35_22 (by kernel_rfl) (by kernel_rfl) (by kernel_rfl) ?qB_35_22 (Or.inl ⟨?wB_35_22, ?yB_35_22⟩) (by assumption) ?rB_35_22
          case eB_35_22 => simp only [List.getElem?_toArray, List.getElem?_cons_succ, List.getElem?_cons_zero]; rfl
          case wB_35_22 => rfl
          case qB_35_22 => exact fun _ _ _ h => h
          case yB_35_22 => (intro w hSw; (try dsimp only at hSw); go_simp; try with_reducible rfl)
          try simp only [Act.put, List.setIfInBounds_toArray, List.set_cons_zero, List.set_cons_succ]
          refine wpAnyH_take (i := 23) (oi := ?oB_36_23) (v := ?vB_36_23) ?eB_36_23 (by kernel_rfl) (by kernel_rfl) (by kernel_rfl) ?qB_36_23 (Or.inl ⟨?wB_36_23, ?yB_36_23⟩) (by assumption) ?rB_36_23
          case eB_36_23 => simp only [List.getElem?_toArray, List.getElem?_cons_succ, List.getElem?_cons_zero]; rfl
          case wB_36_23 => rfl
          case qB_36_23 => exact fun _ _ _ h => h
          case yB_36_23 => (intro w hSw; (try dsimp only at hSw); go_simp; try with_reducible rfl)
          try simp only [Act.put, List.setIfInBounds_toArray, List.set_cons_zero, List.set_cons_succ]
          refine wpAnyH_take (i := 24) (oi := ?oB_37_24) (v := ?vB_37_24) ?eB_37_24 (by kernel_rfl) (by kernel_rfl) (by kernel_rfl) ?qB_37_24 (Or.inl ⟨?wB_37_24, ?yB_37_24⟩) (by assumption) ?rB_37_24
          case eB_37_24 => simp only [List.getElem?_toArray, List.getElem?_cons_succ, List.getElem?_cons_zero]; rfl
          case wB_37_24 => rfl
          case qB_37_24 => exact fun _ _ _ h => h
          case yB_37_24 => (intro w hSw; (try dsimp only at hSw); go_simp; try with_reducible rfl)
          try simp only [Act.put, List.setIfInBounds_toArray, List.set_cons_zero, List.set_cons_succ]
          refine wpAnyH_take (i := 25) (oi := ?oB_38_25) (v := ?vB_38_25) ?eB_38_25 (by kernel_rfl) (by kernel_rfl) (by kernel_rfl) ?qB_38_25 (Or.inl ⟨?wB_38_25, ?yB_38_25⟩) (by assumption) ?rB_38_25
          case eB_38_25 => simp only [List.getElem?_toArray, List.getElem?_cons_succ, List.getElem?_cons_zero]; rfl
          case wB_38_25 => rfl
          case qB_38_25 => exact fun _ _ _ h => h
          case yB_38_25 => (intro w hSw; (try dsimp only at hSw); go_simp; try with_reducible rfl)
          try simp only [Act.put, List.setIfInBounds_toArray, List.set_cons_zero, List.set_cons_succ]
          have hOld := hHeld
          clear hHeld
          refine wpAnyH_ready (rs := [26]) (by kernel_rfl) (by simp) ?_
          refine AllReadyH.cons (o := ?oB_39_26) ?eB_39_26 (fun K hK => ?_) AllReadyH.nil
          case eB_39_26 => simp only [List.getElem?_toArray, List.getElem?_cons_succ, List.getElem?_cons_zero]; rfl
          go_simp
          (go_at_call 86; refine Calls.mono (kfile_same _ _ _ _ f _ _ _ _ _ (HG1.out.below D0) (HG2.out.below D0) (HK1.out.below D0) (HK2.out.below D0)) ?_; rintro _ x9 ⟨rfl, hb9⟩; have D1 : Below wr.heap.size wr x9 := D0.trans (hb9.mono D0.size); clear hb9)
          try go_wp2_with fail
          refine hK.out _ _ (HKP.out _ D1) (fun hHeld => ?_)
          clear hK hOld
          try simp only [Act.put, List.setIfInBounds_toArray, List.set_cons_zero, List.set_cons_succ]
          refine wpAnyH_take (i := 27) (oi := ?oB_40_27) (v := ?vB_40_27) ?eB_40_27 (by kernel_rfl) (by kernel_rfl) (by kernel_rfl) ?qB_40_27 (Or.inl ⟨?wB_40_27, ?yB_40_27⟩) (by assumption) ?rB_40_27
          case eB_40_27 => simp only [List.getElem?_toArray, List.getElem?_cons_succ, List.getElem?_cons_zero]; rfl
          case wB_40_27 => rfl
          case qB_40_27 => exact fun _ _ _ h => h
          case yB_40_27 => (intro w hSw; (try dsimp only at hSw); go_simp; try with_reducible rfl)
          try simp only [Act.put, List.setIfInBounds_toArray, List.set_cons_zero, List.set_cons_succ]
          refine wpAnyH_take (i := 28) (oi := ?oB_41_28) (v := ?vB_41_28) ?eB_41_28 (by kernel_rfl) (by kernel_rfl) (by kernel_rfl) ?qB_41_28 (Or.inl ⟨?wB_41_28, ?yB_41_28⟩) (by assumption) ?rB_41_28
          case eB_41_28 => simp only [List.getElem?_toArray, List.getElem?_cons_succ, List.getElem?_cons_zero]; rfl
          case wB_41_28 => rfl
          case qB_41_28 => exact fun _ _ _ h => h
          case yB_41_28 => (intro w hSw; (try dsimp only at hSw); go_simp; try with_reducible rfl)
          try simp only [Act.put, List.setIfInBounds_toArray, List.set_cons_zero, List.set_cons_succ]
          refine wpAnyH_done (by kernel_rfl) ?_ _
          have HB3 : Hid (Below w1.heap.size w1 x9) := HBW.out.trans (D1.mono HBW.out.size)
          clear D0 D1 HKP hHeld HBW HWr HX2 HY2 HG1 HG2 HK1 HK2
          go_wp2_with fail
          go_roundw
          · exact ⟨i + 1, by go_num, by omega, HB3.out⟩
          · simp only [intOf]; omega
        · have t1 : ¬ (i : Int) < (na : Int) := by omega
          go_wp2_with fail
          go_ret
          exact ⟨rfl, by first | exact HWr.out | (rw [← HBB.out]; exact HWr.out)⟩
end Go.Proofs.Ytkcohhldmhdcfaa
