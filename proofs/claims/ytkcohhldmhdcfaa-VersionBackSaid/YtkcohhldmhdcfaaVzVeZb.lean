/- Chapter 12's law: lives. -/
import Derived.Test.YtkcohhldmhdcfaaVzVeZa
namespace Go.Proofs.Ytkcohhldmhdcfaa
open Go.RowKit

set_option maxRecDepth 100000 in
set_option maxHeartbeats 16000000 in
theorem vlives_any (w : World) :
    Calls Try.prog 32 #[] w fun x w' => x = .returned (.bool true) ∧ Below w.heap.size w w' := by
  have hcc := conv_const
  have hcc2 := conv_const2
  go_enter Try.func32, Try.ntmps32
  go_wp2_with fail
  refine Calls.mono (first_any w) ?_
  rintro _ w1 ⟨b1, rfl, hr, hb⟩
  have HR1 := Lib.hid hr
  have HB1 := Lib.hid hb
  clear hr hb
  unfold verCells firstV
  go_wp2_with fail
  refine Calls.mono (lfile_any 1 [97] [99] w1 (by decide) (by decide) u64_1) ?_
  rintro _ w2 ⟨vk, vv, rfl, hk, hv, hb⟩
  obtain ⟨ka, kc, rfl⟩ := hk.isSlice
  obtain ⟨va, vc, rfl⟩ := hv.isSlice
  have HR2 := Lib.hid (HR1.out.below hb)
  have HB2 : Hid (Below w.heap.size w w2) := HB1.out.trans (hb.mono HB1.out.size)
  have HK2 := Lib.hid hk.any
  have HV2 := Lib.hid hv.any
  clear hk hv hb HR1 HB1
  unfold filCells lfil
  go_wp2_with fail
  refine Calls.mono (ladd_any 2 fA (.slice ka 1 kc) (.slice va 1 vc) w2 HK2.out HV2.out (wf_lfil u64_1) u64_2) ?_
  rintro _ w3 ⟨b3, rfl, he, hb⟩
  have HR3 := Lib.hid (HR2.out.below hb)
  have HB3 : Hid (Below w.heap.size w w3) := HB2.out.trans (hb.mono HB2.out.size)
  have HE3 := Lib.hid he
  clear he hb HR2 HB2 HK2 HV2
  unfold ediCells addE
  go_wp2_with fail
  refine Calls.mono (apply_to 5 ap_one rfl (.slice (some ⟨b1, 0, none⟩) 5 5) (.slice none 0 0) (.slice (some ⟨b3, 0, none⟩) 1 1) w3 HR3.out ⟨u64_1, u64_0, u64_0⟩ (by decide) HE3.out (by decide) (by decide) (adds1 (by decide) (by decide))) ?_
  rintro _ w4 ⟨xa, xac, rfl, hr, hb⟩
  have HR4 := Lib.hid hr.any
  have HB4 : Hid (Below w.heap.size w w4) := HB3.out.trans (hb.mono HB3.out.size)
  clear hr hb HR3 HB3 HE3
  unfold vOne
  go_upto_region 2 with fail
  refine wp_gen fun w5 hw5 => ?_
  have HX5 : Hid (Blk w5 w4.heap.size #[.slice xa 5 xac, .int .u64 2, .int .u64 0, .int .u64 0] 25) := by rw [hw5]; exact Blk.at_new rfl rfl
  have HB45 : Hid (Below w4.heap.size w4 w5) := by rw [hw5]; exact (Below.refl _ _).alloc (Nat.le_refl _) _
  have HR5 := Lib.hid (HR4.out.below HB45.out)
  have HB5 : Hid (Below w.heap.size w w5) := HB4.out.trans (HB45.out.mono HB4.out.size)
  clear hw5 HR4 HB4 HB45
  generalize w4.heap.size = vb at *
  go_cut [3, 4] from 16 to 22 (fun _p x wx => Hid (LvErr w5 2 x wx))
  case first =>
    have HKP : Hid (∀ W, Below w5.heap.size w5 W → (W.cell? ⟨vb, 0, none⟩ = some (.slice xa 5 xac) ∧ W.cell? ⟨vb, 1, none⟩ = some (.int .u64 2) ∧ W.cell? ⟨vb, 2, none⟩ = some (.int .u64 0) ∧ W.cell? ⟨vb, 3, none⟩ = some (.int .u64 0))) := fun W hb => ⟨(HX5.out.below hb HX5.out.lt).cell rfl, (HX5.out.below hb HX5.out.lt).cell rfl, (HX5.out.below hb HX5.out.lt).cell rfl, (HX5.out.below hb HX5.out.lt).cell rfl⟩
    have HB0 : Hid (Below w5.heap.size w5 w5.drew) := below_drew (Below.refl _ _)
    refine wp_region_held_drew (S := fun w' => (w'.cell? ⟨vb, 0, none⟩ = some (.slice xa 5 xac) ∧ w'.cell? ⟨vb, 1, none⟩ = some (.int .u64 2) ∧ w'.cell? ⟨vb, 2, none⟩ = some (.int .u64 0) ∧ w'.cell? ⟨vb, 3, none⟩ = some (.int .u64 0))) (by kernel_rfl) (HKP.out _ HB0.out) (fun hHeld => ?_)
    refine wpAnyH_take (i := 0) (oi := ?oR2_1_0) (v := ?vR2_1_0) ?eR2_1_0 (by kernel_rfl) (by kernel_rfl) (by kernel_rfl) ?qR2_1_0 (Or.inl ⟨?wR2_1_0, ?yR2_1_0⟩) (by assumption) ?rR2_1_0
    case eR2_1_0 => simp only [List.getElem?_toArray, List.getElem?_cons_zero]; rfl
    case wR2_1_0 => rfl
    case qR2_1_0 => exact fun _ _ _ h => h
    case yR2_1_0 => (intro w hSw; (try dsimp only at hSw); go_simp; try with_reducible rfl)
    try simp only [Act.put, List.setIfInBounds_toArray, List.set_cons_zero, List.set_cons_succ]
    have hOld := hHeld
    clear hHeld
    refine wpAnyH_ready (rs := [1, 7]) (by kernel_rfl) (by simp) ?_
    refine AllReadyH.cons (o := ?oR2_2) ?eR2_2 (fun K hK => ?_) (AllReadyH.cons (o := ?pR2_2) ?fR2_2 (fun K hK => ?_) AllReadyH.nil)
    case eR2_2 => simp only [List.getElem?_toArray, List.getElem?_cons_succ, List.getElem?_cons_zero]; rfl
    case fR2_2 => simp only [List.getElem?_toArray, List.getElem?_cons_succ, List.getElem?_cons_zero]; rfl
    · go_simp
      (go_at_call 31; refine Calls.mono (lfile_any 2 [99] [100] _ (by decide) (by decide) u64_2) ?_; rintro _ x1 ⟨vk, vv, rfl, hk, hv, hb1⟩; obtain ⟨ka, kc, rfl⟩ := hk.isSlice; obtain ⟨va, vc, rfl⟩ := hv.isSlice; have hk := hk.any; have hv := hv.any; have HB1 : Hid (Below w5.heap.size w5 x1) := HB0.out.trans (hb1.mono HB0.out.size))
      try go_wp2_with fail
      refine hK.out _ _ (HKP.out _ HB1.out) (fun hHeld => ?_)
      clear hK hOld
      try simp only [Act.put, List.setIfInBounds_toArray, List.set_cons_zero, List.set_cons_succ]
      have hOld := hHeld
      clear hHeld
      refine wpAnyH_ready (rs := [2, 7]) (by kernel_rfl) (by simp) ?_
      refine AllReadyH.cons (o := ?oR2_3) ?eR2_3 (fun K hK => ?_) (AllReadyH.cons (o := ?pR2_3) ?fR2_3 (fun K hK => ?_) AllReadyH.nil)
      case eR2_3 => simp only [List.getElem?_toArray, List.getElem?_cons_succ, List.getElem?_cons_zero]; rfl
      case fR2_3 => simp only [List.getElem?_toArray, List.getElem?_cons_succ, List.getElem?_cons_zero]; rfl
      · go_simp
        (go_at_call 30; refine Calls.mono (ladd_any 3 fB (.slice ka 1 kc) (.slice va 1 vc) _ hk hv (wf_lfil u64_2) u64_3) ?_; rintro _ x2 ⟨b2, rfl, he, hb2⟩; have HB2 : Hid (Below w5.heap.size w5 x2) := HB1.out.trans (hb2.mono HB1.out.size))
        try go_wp2_with fail
        refine hK.out _ _ (HKP.out _ HB2.out) (fun hHeld => ?_)
        clear hK hOld
        try simp only [Act.put, List.setIfInBounds_toArray, List.set_cons_zero, List.set_cons_succ]
        have hOld := hHeld
        clear hHeld
        refine wpAnyH_ready (rs := [3, 7]) (by kernel_rfl) (by simp) ?_
        refine AllReadyH.cons (o := ?oR2_4) ?eR2_4 (fun K hK => ?_) (AllReadyH.cons (o := ?pR2_4) ?fR2_4 (fun K hK => ?_) AllReadyH.nil)
        case eR2_4 => simp only [List.getElem?_toArray, List.getElem?_cons_succ, List.getElem?_cons_zero]; rfl
        case fR2_4 => simp only [List.getElem?_toArray, List.getElem?_cons_succ, List.getElem?_cons_zero]; rfl
        · go_simp
          (go_at_call 28; refine Calls.mono (apply_to 0 ap_bad rfl (.slice xa 5 xac) (.slice none 0 0) (.slice (some ⟨b2, 0, none⟩) 1 1) _ (HR5.out.below HB2.out) ⟨u64_2, u64_0, u64_0⟩ (by decide) he (by decide) (by decide) (adds1 (by decide) (by decide))) ?_; rintro _ x3 ⟨a3, c3, rfl, hr3, hb3⟩; have HB3 : Hid (Below w5.heap.size w5 x3) := HB2.out.trans (hb3.mono HB2.out.size))
          try go_wp2_with fail
          refine hK.out _ _ (HKP.out _ HB3.out) (fun hHeld => ?_)
          clear hK hOld
          try simp only [Act.put, List.setIfInBounds_toArray, List.set_cons_zero, List.set_cons_succ]
          refine wpAnyH_take (i := 4) (oi := ?oR2_5_4) (v := ?vR2_5_4) ?eR2_5_4 (by kernel_rfl) (by kernel_rfl) (by kernel_rfl) ?qR2_5_4 (Or.inl ⟨?wR2_5_4, ?yR2_5_4⟩) (by assumption) ?rR2_5_4
          case eR2_5_4 => simp only [List.getElem?_toArray, List.getElem?_cons_succ, List.getElem?_cons_zero]; rfl
          case wR2_5_4 => rfl
          case qR2_5_4 => exact fun _ _ _ h => h
          case yR2_5_4 => (intro w hSw; (try dsimp only at hSw); go_simp; try with_reducible rfl)
          try simp only [Act.put, List.setIfInBounds_toArray, List.set_cons_zero, List.set_cons_succ]
          refine wpAnyH_take (i := 5) (oi := ?oR2_6_5) (v := ?vR2_6_5) ?eR2_6_5 (by kernel_rfl) (by kernel_rfl) (by kernel_rfl) ?qR2_6_5 (Or.inl ⟨?wR2_6_5, ?yR2_6_5⟩) (by assumption) ?rR2_6_5
          case eR2_6_5 => simp only [List.getElem?_toArray, List.getElem?_cons_succ, List.getElem?_cons_zero]; rfl
          case wR2_6_5 => rfl
          case qR2_6_5 => exact fun _ _ _ h => h
          case yR2_6_5 => (intro w hSw; (try dsimp only at hSw); go_simp; try with_reducible rfl)
          try simp only [Act.put, List.setIfInBounds_toArray, List.set_cons_zero, List.set_cons_succ]
          refine wpAnyH_take (i := 6) (oi := ?oR2_7_6) (v := ?vR2_7_6) ?eR2_7_6 (by kernel_rfl) (by kernel_rfl) (by kernel_rfl) ?qR2_7_6 (Or.inl ⟨?wR2_7_6, ?yR2_7_6⟩) (by assumption) ?rR2_7_6
          case eR2_7_6 => simp only [List.getElem?_toArray, List.getElem?_cons_succ, List.getElem?_cons_zero]; rfl
          case wR2_7_6 => rfl
          case qR2_7_6 => exact fun _ _ _ h => h
          case yR2_7_6 => (intro w hSw; (try dsimp only at hSw); go_simp; try with_reducible rfl)
          try simp only [Act.put, List.setIfInBounds_toArray, List.set_cons_zero, List.set_cons_succ]
          have hOld := hHeld
          clear hHeld
          refine wpAnyH_ready (rs := [7]) (by kernel_rfl) (by simp) ?_
          refine AllReadyH.cons (o := ?oR2_8_7) ?eR2_8_7 (fun K hK => ?_) AllReadyH.nil
          case eR2_8_7 => simp only [List.getElem?_toArray, List.getElem?_cons_succ, List.getElem?_cons_zero]; rfl
          go_simp
          skip
          try go_wp2_with fail
          refine hK.out _ _ (HKP.out _ (HB3.out.alloc HB3.out.size _)) (fun hHeld => ?_)
          clear hK hOld
          try simp only [Act.put, List.setIfInBounds_toArray, List.set_cons_zero, List.set_cons_succ]
          have hOld := hHeld
          clear hHeld
          refine wpAnyH_ready (rs := [8]) (by kernel_rfl) (by simp) ?_
          refine AllReadyH.cons (o := ?oR2_9_8) ?eR2_9_8 (fun K hK => ?_) AllReadyH.nil
          case eR2_9_8 => simp only [List.getElem?_toArray, List.getElem?_cons_succ, List.getElem?_cons_zero]; rfl
          go_simp
          skip
          try go_wp2_with fail
          refine hK.out _ _ (HKP.out _ (HB3.out.alloc HB3.out.size _)) (fun hHeld => ?_)
          clear hK hOld
          try simp only [Act.put, List.setIfInBounds_toArray, List.set_cons_zero, List.set_cons_succ]
          refine wpAnyH_take (i := 9) (oi := ?oR2_10_9) (v := ?vR2_10_9) ?eR2_10_9 (by kernel_rfl) (by kernel_rfl) (by kernel_rfl) ?qR2_10_9 (Or.inl ⟨?wR2_10_9, ?yR2_10_9⟩) (by assumption) ?rR2_10_9
          case eR2_10_9 => simp only [List.getElem?_toArray, List.getElem?_cons_succ, List.getElem?_cons_zero]; rfl
          case wR2_10_9 => rfl
          case qR2_10_9 => exact fun _ _ _ h => h
          case yR2_10_9 => (intro w hSw; (try dsimp only at hSw); go_simp; try with_reducible rfl)
          try simp only [Act.put, List.setIfInBounds_toArray, List.set_cons_zero, List.set_cons_succ]
          refine wpAnyH_done (by kernel_rfl) ?_ _
          go_wp2_with fail
          go_meet
          exact ⟨rfl, HB3.out.alloc HB3.out.size _⟩
        · go_simp
          skip
          try go_wp2_with fail
          refine hK.out _ _ (HKP.out _ (HB2.out.alloc HB2.out.size _)) (fun hHeld => ?_)
          clear hK hOld
          try simp only [Act.put, List.setIfInBounds_toArray, List.set_cons_zero, List.set_cons_succ]
          have hOld := hHeld
          clear hHeld
          refine wpAnyH_ready (rs := [3]) (by kernel_rfl) (by simp) ?_
          refine AllReadyH.cons (o := ?oR2_11_3) ?eR2_11_3 (fun K hK => ?_) AllReadyH.nil
          case eR2_11_3 => simp only [List.getElem?_toArray, List.getElem?_cons_succ, List.getElem?_cons_zero]; rfl
          go_simp
          (go_at_call 28; refine calls_gen fun y2 hy2 => ?_; have HZ : Hid (Blk y2 x2.heap.size zero4 25) := (by rw [hy2]; exact Blk.at_new rfl rfl); have HYy2 : Hid (Below x2.heap.size x2 y2) := (by rw [hy2]; exact (Below.refl _ _).alloc (Nat.le_refl _) _); have HBy2 : Hid (Below w5.heap.size w5 y2) := HB2.out.trans (HYy2.out.mono HB2.out.size); have he := he.below HYy2.out; refine Calls.mono (apply_to 0 ap_bad rfl (.slice xa 5 xac) (.slice none 0 0) (.slice (some ⟨b2, 0, none⟩) 1 1) _ (HR5.out.below HBy2.out) ⟨u64_2, u64_0, u64_0⟩ (by decide) he (by decide) (by decide) (adds1 (by decide) (by decide))) ?_; rintro _ x3 ⟨a3, c3, rfl, hr3, hb3⟩; have HB3 : Hid (Below w5.heap.size w5 x3) := HBy2.out.trans (hb3.mono HBy2.out.size); have HOL := Lib.hid HZ.out.lt; have HZ := Lib.hid (HZ.out.below hb3 HZ.out.lt); obtain ⟨r0, r1, r2, r3, f0, f1, f2, f3⟩ := zero4_cells HZ.out)
          try go_wp2_with fail
          refine hK.out _ _ (HKP.out _ HB3.out) (fun hHeld => ?_)
          clear hK hOld
          try simp only [Act.put, List.setIfInBounds_toArray, List.set_cons_zero, List.set_cons_succ]
          refine wpAnyH_take (i := 4) (oi := ?oR2_12_4) (v := ?vR2_12_4) ?eR2_12_4 (by kernel_rfl) (by kernel_rfl) (by kernel_rfl) ?qR2_12_4 (Or.inl ⟨?wR2_12_4, ?yR2_12_4⟩) (by assumption) ?rR2_12_4
          case eR2_12_4 => simp only [List.getElem?_toArray, List.getElem?_cons_succ, List.getElem?_cons_zero]; rfl
          case wR2_12_4 => rfl
          case qR2_12_4 => exact fun _ _ _ h => h
          case yR2_12_4 => (intro w hSw; (try dsimp only at hSw); go_simp; try with_reducible rfl)
          try simp only [Act.put, List.setIfInBounds_toArray, List.set_cons_zero, List.set_cons_succ]
          refine wpAnyH_take (i := 5) (oi := ?oR2_13_5) (v := ?vR2_13_5) ?eR2_13_5 (by kernel_rfl) (by kernel_rfl) (by kernel_rfl) ?qR2_13_5 (Or.inl ⟨?wR2_13_5, ?yR2_13_5⟩) (by assumption) ?rR2_13_5
          case eR2_13_5 => simp only [List.getElem?_toArray, List.getElem?_cons_succ, List.getElem?_cons_zero]; rfl
          case wR2_13_5 => rfl
          case qR2_13_5 => exact fun _ _ _ h => h
          case yR2_13_5 => (intro w hSw; (try dsimp only at hSw); go_simp; try with_reducible rfl)
          try simp only [Act.put, List.setIfInBounds_toArray, List.set_cons_zero, List.set_cons_succ]
          refine wpAnyH_take (i := 6) (oi := ?oR2_14_6) (v := ?vR2_14_6) ?eR2_14_6 (by kernel_rfl) (by kernel_rfl) (by kernel_rfl) ?qR2_14_6 (Or.inl ⟨?wR2_14_6, ?yR2_14_6⟩) (by assumption) ?rR2_14_6
          case eR2_14_6 => simp only [List.getElem?_toArray, List.getElem?_cons_succ, List.getElem?_cons_zero]; rfl
          case wR2_14_6 => rfl
          case qR2_14_6 => exact fun _ _ _ h => h
          case yR2_14_6 => (intro w hSw; (try dsimp only at hSw); go_simp; try with_reducible rfl)
          try simp only [Act.put, List.setIfInBounds_toArray, List.set_cons_zero, List.set_cons_succ]
          have hOld := hHeld
          clear hHeld
          refine wpAnyH_ready (rs := [8]) (by kernel_rfl) (by simp) ?_
          refine AllReadyH.cons (o := ?oR2_15_8) ?eR2_15_8 (fun K hK => ?_) AllReadyH.nil
          case eR2_15_8 => simp only [List.getElem?_toArray, List.getElem?_cons_succ, List.getElem?_cons_zero]; rfl
          go_simp
          skip
          try go_wp2_with fail
          refine hK.out _ _ (HKP.out _ (below_set4 HB3.out (by first | exact Nat.le_refl _ | exact HB1.out.size | exact HB2.out.size))) (fun hHeld => ?_)
          clear hK hOld
          try simp only [Act.put, List.setIfInBounds_toArray, List.set_cons_zero, List.set_cons_succ]
          refine wpAnyH_take (i := 9) (oi := ?oR2_16_9) (v := ?vR2_16_9) ?eR2_16_9 (by kernel_rfl) (by kernel_rfl) (by kernel_rfl) ?qR2_16_9 (Or.inl ⟨?wR2_16_9, ?yR2_16_9⟩) (by assumption) ?rR2_16_9
          case eR2_16_9 => simp only [List.getElem?_toArray, List.getElem?_cons_succ, List.getElem?_cons_zero]; rfl
          case wR2_16_9 => rfl
          case qR2_16_9 => exact fun _ _ _ h => h
          case yR2_16_9 => (intro w hSw; (try dsimp only at hSw); go_simp; try with_reducible rfl)
          try simp only [Act.put, List.setIfInBounds_toArray, List.set_cons_zero, List.set_cons_succ]
          refine wpAnyH_done (by kernel_rfl) ?_ _
          go_wp2_with fail
          go_meet
          exact ⟨rfl, below_set4 HB3.out (by first | exact Nat.le_refl _ | exact HB1.out.size | exact HB2.out.size)⟩
      · go_simp
        skip
        try go_wp2_with fail
        refine hK.out _ _ (HKP.out _ (HB1.out.alloc HB1.out.size _)) (fun hHeld => ?_)
        clear hK hOld
        try simp only [Act.put, List.setIfInBounds_toArray, List.set_cons_zero, List.set_cons_succ]
        have hOld := hHeld
        clear hHeld
        refine wpAnyH_ready (rs := [2]) (by kernel_rfl) (by simp) ?_
        refine AllReadyH.cons (o := ?oR2_17_2) ?eR2_17_2 (fun K hK => ?_) AllReadyH.nil
        case eR2_17_2 => simp only [List.getElem?_toArray, List.getElem?_cons_succ, List.getElem?_cons_zero]; rfl
        go_simp
        (go_at_call 30; refine calls_gen fun y1 hy1 => ?_; have HZ : Hid (Blk y1 x1.heap.size zero4 25) := (by rw [hy1]; exact Blk.at_new rfl rfl); have HYy1 : Hid (Below x1.heap.size x1 y1) := (by rw [hy1]; exact (Below.refl _ _).alloc (Nat.le_refl _) _); have HBy1 : Hid (Below w5.heap.size w5 y1) := HB1.out.trans (HYy1.out.mono HB1.out.size); have hk := hk.below HYy1.out; have hv := hv.below HYy1.out; refine Calls.mono (ladd_any 3 fB (.slice ka 1 kc) (.slice va 1 vc) _ hk hv (wf_lfil u64_2) u64_3) ?_; rintro _ x2 ⟨b2, rfl, he, hb2⟩; have HB2 : Hid (Below w5.heap.size w5 x2) := HBy1.out.trans (hb2.mono HBy1.out.size); have HZ := Lib.hid (HZ.out.below hb2 HZ.out.lt))
        try go_wp2_with fail
        refine hK.out _ _ (HKP.out _ HB2.out) (fun hHeld => ?_)
        clear hK hOld
        try simp only [Act.put, List.setIfInBounds_toArray, List.set_cons_zero, List.set_cons_succ]
        have hOld := hHeld
        clear hHeld
        refine wpAnyH_ready (rs := [3]) (by kernel_rfl) (by simp) ?_
        refine AllReadyH.cons (o := ?oR2_18_3) ?eR2_18_3 (fun K hK => ?_) AllReadyH.nil
        case eR2_18_3 => simp only [List.getElem?_toArray, List.getElem?_cons_succ, List.getElem?_cons_zero]; rfl
        go_simp
        (go_at_call 28; refine Calls.mono (apply_to 0 ap_bad rfl (.slice xa 5 xac) (.slice none 0 0) (.slice (some ⟨b2, 0, none⟩) 1 1) _ (HR5.out.below HB2.out) ⟨u64_2, u64_0, u64_0⟩ (by decide) he (by decide) (by decide) (adds1 (by decide) (by decide))) ?_; rintro _ x3 ⟨a3, c3, rfl, hr3, hb3⟩; have HB3 : Hid (Below w5.heap.size w5 x3) := HB2.out.trans (hb3.mono HB2.out.size); have HOL := Lib.hid HZ.out.lt; have HZ := Lib.hid (HZ.out.below hb3 HZ.out.lt); obtain ⟨r0, r1, r2, r3, f0, f1, f2, f3⟩ := zero4_cells HZ.out)
        try go_wp2_with fail
        refine hK.out _ _ (HKP.out _ HB3.out) (fun hHeld => ?_)
        clear hK hOld
        try simp only [Act.put, List.setIfInBounds_toArray, List.set_cons_zero, List.set_cons_succ]
        refine wpAnyH_take (i := 4) (oi := ?oR2_19_4) (v := ?vR2_19_4) ?eR2_19_4 (by kernel_rfl) (by kernel_rfl) (by kernel_rfl) ?qR2_19_4 (Or.inl ⟨?wR2_19_4, ?yR2_19_4⟩) (by assumption) ?rR2_19_4
        case eR2_19_4 => simp only [List.getElem?_toArray, List.getElem?_cons_succ, List.getElem?_cons_zero]; rfl
        case wR2_19_4 => rfl
        case qR2_19_4 => exact fun _ _ _ h => h
        case yR2_19_4 => (intro w hSw; (try dsimp only at hSw); go_simp; try with_reducible rfl)
        try simp only [Act.put, List.setIfInBounds_toArray, List.set_cons_zero, List.set_cons_succ]
        refine wpAnyH_take (i := 5) (oi := ?oR2_20_5) (v := ?vR2_20_5) ?eR2_20_5 (by kernel_rfl) (by kernel_rfl) (by kernel_rfl) ?qR2_20_5 (Or.inl ⟨?wR2_20_5, ?yR2_20_5⟩) (by assumption) ?rR2_20_5
        case eR2_20_5 => simp only [List.getElem?_toArray, List.getElem?_cons_succ, List.getElem?_cons_zero]; rfl
        case wR2_20_5 => rfl
        case qR2_20_5 => exact fun _ _ _ h => h
        case yR2_20_5 => (intro w hSw; (try dsimp only at hSw); go_simp; try with_reducible rfl)
        try simp only [Act.put, List.setIfInBounds_toArray, List.set_cons_zero, List.set_cons_succ]
        refine wpAnyH_take (i := 6) (oi := ?oR2_21_6) (v := ?vR2_21_6) ?eR2_21_6 (by kernel_rfl) (by kernel_rfl) (by kernel_rfl) ?qR2_21_6 (Or.inl ⟨?wR2_21_6, ?yR2_21_6⟩) (by assumption) ?rR2_21_6
        case eR2_21_6 => simp only [List.getElem?_toArray, List.getElem?_cons_succ, List.getElem?_cons_zero]; rfl
        case wR2_21_6 => rfl
        case qR2_21_6 => exact fun _ _ _ h => h
        case yR2_21_6 => (intro w hSw; (try dsimp only at hSw); go_simp; try with_reducible rfl)
        try simp only [Act.put, List.setIfInBounds_toArray, List.set_cons_zero, List.set_cons_succ]
        have hOld := hHeld
        clear hHeld
        refine wpAnyH_ready (rs := [8]) (by kernel_rfl) (by simp) ?_
        refine AllReadyH.cons (o := ?oR2_22_8) ?eR2_22_8 (fun K hK => ?_) AllReadyH.nil
        case eR2_22_8 => simp only [List.getElem?_toArray, List.getElem?_cons_succ, List.getElem?_cons_zero]; rfl
        go_simp
        skip
        try go_wp2_with fail
        refine hK.out _ _ (HKP.out _ (below_set4 HB3.out (by first | exact Nat.le_refl _ | exact HB1.out.size | exact HB2.out.size))) (fun hHeld => ?_)
        clear hK hOld
        try simp only [Act.put, List.setIfInBounds_toArray, List.set_cons_zero, List.set_cons_succ]
        refine wpAnyH_take (i := 9) (oi := ?oR2_23_9) (v := ?vR2_23_9) ?eR2_23_9 (by kernel_rfl) (by kernel_rfl) (by kernel_rfl) ?qR2_23_9 (Or.inl ⟨?wR2_23_9, ?yR2_23_9⟩) (by assumption) ?rR2_23_9
        case eR2_23_9 => simp only [List.getElem?_toArray, List.getElem?_cons_succ, List.getElem?_cons_zero]; rfl
        case wR2_23_9 => rfl
        case qR2_23_9 => exact fun _ _ _ h => h
        case yR2_23_9 => (intro w hSw; (try dsimp only at hSw); go_simp; try with_reducible rfl)
        try simp only [Act.put, List.setIfInBounds_toArray, List.set_cons_zero, List.set_cons_succ]
        refine wpAnyH_done (by kernel_rfl) ?_ _
        go_wp2_with fail
        go_meet
        exact ⟨rfl, below_set4 HB3.out (by first | exact Nat.le_refl _ | exact HB1.out.size | exact HB2.out.size)⟩
    · go_simp
      skip
      try go_wp2_with fail
      refine hK.out _ _ (HKP.out _ (HB0.out.alloc HB0.out.size _)) (fun hHeld => ?_)
      clear hK hOld
      try simp only [Act.put, List.setIfInBounds_toArray, List.set_cons_zero, List.set_cons_succ]
      have hOld := hHeld
      clear hHeld
      refine wpAnyH_ready (rs := [1]) (by kernel_rfl) (by simp) ?_
      refine AllReadyH.cons (o := ?oR2_24_1) ?eR2_24_1 (fun K hK => ?_) AllReadyH.nil
      case eR2_24_1 => simp only [List.getElem?_toArray, List.getElem?_cons_succ, List.getElem?_cons_zero]; rfl
      go_simp
      (go_at_call 31; refine calls_gen fun y0 hy0 => ?_; have HZ : Hid (Blk y0 w5.heap.size zero4 25) := (by rw [hy0]; first | exact Blk.drewP (Blk.at_new rfl rfl) | exact Blk.at_new rfl rfl); have HBy0 : Hid (Below w5.heap.size w5 y0) := (by rw [hy0]; first | exact below_drew ((Below.refl _ _).alloc (Nat.le_refl _) _) | exact (below_drew (Below.refl _ _)).alloc (Nat.le_refl _) _); refine Calls.mono (lfile_any 2 [99] [100] _ (by decide) (by decide) u64_2) ?_; rintro _ x1 ⟨vk, vv, rfl, hk, hv, hb1⟩; obtain ⟨ka, kc, rfl⟩ := hk.isSlice; obtain ⟨va, vc, rfl⟩ := hv.isSlice; have hk := hk.any; have hv := hv.any; have HB1 : Hid (Below w5.heap.size w5 x1) := HBy0.out.trans (hb1.mono HBy0.out.size); have HZ := Lib.hid (HZ.out.below hb1 HZ.out.lt))
      try go_wp2_with fail
      refine hK.out _ _ (HKP.out _ HB1.out) (fun hHeld => ?_)
      clear hK hOld
      try simp only [Act.put, List.setIfInBounds_toArray, List.set_cons_zero, List.set_cons_succ]
      have hOld := hHeld
      clear hHeld
      refine wpAnyH_ready (rs := [2]) (by kernel_rfl) (by simp) ?_
      refine AllReadyH.cons (o := ?oR2_25_2) ?eR2_25_2 (fun K hK => ?_) AllReadyH.nil
      case eR2_25_2 => simp only [List.getElem?_toArray, List.getElem?_cons_succ, List.getElem?_cons_zero]; rfl
      go_simp
      (go_at_call 30; refine Calls.mono (ladd_any 3 fB (.slice ka 1 kc) (.slice va 1 vc) _ hk hv (wf_lfil u64_2) u64_3) ?_; rintro _ x2 ⟨b2, rfl, he, hb2⟩; have HB2 : Hid (Below w5.heap.size w5 x2) := HB1.out.trans (hb2.mono HB1.out.size); have HZ := Lib.hid (HZ.out.below hb2 HZ.out.lt))
      try go_wp2_with fail
      refine hK.out _ _ (HKP.out _ HB2.out) (fun hHeld => ?_)
      clear hK hOld
      try simp only [Act.put, List.setIfInBounds_toArray, List.set_cons_zero, List.set_cons_succ]
      have hOld := hHeld
      clear hHeld
      refine wpAnyH_ready (rs := [3]) (by kernel_rfl) (by simp) ?_
      refine AllReadyH.cons (o := ?oR2_26_3) ?eR2_26_3 (fun K hK => ?_) AllReadyH.nil
      case eR2_26_3 => simp only [List.getElem?_toArray, List.getElem?_cons_succ, List.getElem?_cons_zero]; rfl
      go_simp
      (go_at_call 28; refine Calls.mono (apply_to 0 ap_bad rfl (.slice xa 5 xac) (.slice none 0 0) (.slice (some ⟨b2, 0, none⟩) 1 1) _ (HR5.out.below HB2.out) ⟨u64_2, u64_0, u64_0⟩ (by decide) he (by decide) (by decide) (adds1 (by decide) (by decide))) ?_; rintro _ x3 ⟨a3, c3, rfl, hr3, hb3⟩; have HB3 : Hid (Below w5.heap.size w5 x3) := HB2.out.trans (hb3.mono HB2.out.size); have HOL := Lib.hid HZ.out.lt; have HZ := Lib.hid (HZ.out.below hb3 HZ.out.lt); obtain ⟨r0, r1, r2, r3, f0, f1, f2, f3⟩ := zero4_cells HZ.out)
      try go_wp2_with fail
      refine hK.out _ _ (HKP.out _ HB3.out) (fun hHeld => ?_)
      clear hK hOld
      try simp only [Act.put, List.setIfInBounds_toArray, List.set_cons_zero, List.set_cons_succ]
      refine wpAnyH_take (i := 4) (oi := ?oR2_27_4) (v := ?vR2_27_4) ?eR2_27_4 (by kernel_rfl) (by kernel_rfl) (by kernel_rfl) ?qR2_27_4 (Or.inl ⟨?wR2_27_4, ?yR2_27_4⟩) (by assumption) ?rR2_27_4
      case eR2_27_4 => simp only [List.getElem?_toArray, List.getElem?_cons_succ, List.getElem?_cons_zero]; rfl
      case wR2_27_4 => rfl
      case qR2_27_4 => exact fun _ _ _ h => h
      case yR2_27_4 => (intro w hSw; (try dsimp only at hSw); go_simp; try with_reducible rfl)
      try simp only [Act.put, List.setIfInBounds_toArray, List.set_cons_zero, List.set_cons_succ]
      refine wpAnyH_take (i := 5) (oi := ?oR2_28_5) (v := ?vR2_28_5) ?eR2_28_5 (by kernel_rfl) (by kernel_rfl) (by kernel_rfl) ?qR2_28_5 (Or.inl ⟨?wR2_28_5, ?yR2_28_5⟩) (by assumption) ?rR2_28_5
      case eR2_28_5 => simp only [List.getElem?_toArray, List.getElem?_cons_succ, List.getElem?_cons_zero]; rfl
      case wR2_28_5 => rfl
      case qR2_28_5 => exact fun _ _ _ h => h
      case yR2_28_5 => (intro w hSw; (try dsimp only at hSw); go_simp; try with_reducible rfl)
      try simp only [Act.put, List.setIfInBounds_toArray, List.set_cons_zero, List.set_cons_succ]
      refine wpAnyH_take (i := 6) (oi := ?oR2_29_6) (v := ?vR2_29_6) ?eR2_29_6 (by kernel_rfl) (by kernel_rfl) (by kernel_rfl) ?qR2_29_6 (Or.inl ⟨?wR2_29_6, ?yR2_29_6⟩) (by assumption) ?rR2_29_6
      case eR2_29_6 => simp only [List.getElem?_toArray, List.getElem?_cons_succ, List.getElem?_cons_zero]; rfl
      case wR2_29_6 => rfl
      case qR2_29_6 => exact fun _ _ _ h => h
      case yR2_29_6 => (intro w hSw; (try dsimp only at hSw); go_simp; try with_reducible rfl)
      try simp only [Act.put, List.setIfInBounds_toArray, List.set_cons_zero, List.set_cons_succ]
      have hOld := hHeld
      clear hHeld
      refine wpAnyH_ready (rs := [8]) (by kernel_rfl) (by simp) ?_
      refine AllReadyH.cons (o := ?oR2_30_8) ?eR2_30_8 (fun K hK => ?_) AllReadyH.nil
      case eR2_30_8 => simp only [List.getElem?_toArray, List.getElem?_cons_succ, List.getElem?_cons_zero]; rfl
      go_simp
      skip
      try go_wp2_with fail
      refine hK.out _ _ (HKP.out _ (below_set4 HB3.out (by first | exact Nat.le_refl _ | exact HB1.out.size | exact HB2.out.size))) (fun hHeld => ?_)
      clear hK hOld
      try simp only [Act.put, List.setIfInBounds_toArray, List.set_cons_zero, List.set_cons_succ]
      refine wpAnyH_take (i := 9) (oi := ?oR2_31_9) (v := ?vR2_31_9) ?eR2_31_9 (by kernel_rfl) (by kernel_rfl) (by kernel_rfl) ?qR2_31_9 (Or.inl ⟨?wR2_31_9, ?yR2_31_9⟩) (by assumption) ?rR2_31_9
      case eR2_31_9 => simp only [List.getElem?_toArray, List.getElem?_cons_succ, List.getElem?_cons_zero]; rfl
      case wR2_31_9 => rfl
      case qR2_31_9 => exact fun _ _ _ h => h
      case yR2_31_9 => (intro w hSw; (try dsimp only at hSw); go_simp; try with_reducible rfl)
      try simp only [Act.put, List.setIfInBounds_toArray, List.set_cons_zero, List.set_cons_succ]
      refine wpAnyH_done (by kernel_rfl) ?_ _
      go_wp2_with fail
      go_meet
      exact ⟨rfl, below_set4 HB3.out (by first | exact Nat.le_refl _ | exact HB1.out.size | exact HB2.out.size)⟩
  case rest =>
    have HB6 : Hid (Below w.heap.size w wc) := HB5.out.trans (hcut.out.2.mono HB5.out.size)
    have HX6 := Lib.hid (HX5.out.below hcut.out.2 HX5.out.lt)
    have HR6 := Lib.hid (HR5.out.below hcut.out.2)
    obtain rfl := hcut.out.1
    clear hcut HX5 HR5 HB5
    obtain ⟨w6, hw6⟩ : ∃ w6, wc = w6 := ⟨_, rfl⟩
    rw [hw6] at HB6 HX6 HR6 ⊢
    clear hw6
    go_upto_region 3 with fail
    go_cut [5, 6] from 23 to 29 (fun p x wx => Hid (LvVer w6 vTwo 0 p x wx))
    case first =>
      have HKP : Hid (∀ W, Below w6.heap.size w6 W → (W.cell? ⟨vb, 0, none⟩ = some (.slice xa 5 xac) ∧ W.cell? ⟨vb, 1, none⟩ = some (.int .u64 2) ∧ W.cell? ⟨vb, 2, none⟩ = some (.int .u64 0) ∧ W.cell? ⟨vb, 3, none⟩ = some (.int .u64 0))) := fun W hb => ⟨(HX6.out.below hb HX6.out.lt).cell rfl, (HX6.out.below hb HX6.out.lt).cell rfl, (HX6.out.below hb HX6.out.lt).cell rfl, (HX6.out.below hb HX6.out.lt).cell rfl⟩
      have HB0 : Hid (Below w6.heap.size w6 w6.drew) := below_drew (Below.refl _ _)
      refine wp_region_held_drew (S := fun w' => (w'.cell? ⟨vb, 0, none⟩ = some (.slice xa 5 xac) ∧ w'.cell? ⟨vb, 1, none⟩ = some (.int .u64 2) ∧ w'.cell? ⟨vb, 2, none⟩ = some (.int .u64 0) ∧ w'.cell? ⟨vb, 3, none⟩ = some (.int .u64 0))) (by kernel_rfl) (HKP.out _ HB0.out) (fun hHeld => ?_)
      refine wpAnyH_take (i := 0) (oi := ?oR3_32_0) (v := ?vR3_32_0) ?eR3_32_0 (by kernel_rfl) (by kernel_rfl) (by kernel_rfl) ?qR3_32_0 (Or.inl ⟨?wR3_32_0, ?yR3_32_0⟩) (by assumption) ?rR3_32_0
      case eR3_32_0 => simp only [List.getElem?_toArray, List.getElem?_cons_zero]; rfl
      case wR3_32_0 => rfl
      case qR3_32_0 => exact fun _ _ _ h => h
      case yR3_32_0 => (intro w hSw; (try dsimp only at hSw); go_simp; try with_reducible rfl)
      try simp only [Act.put, List.setIfInBounds_toArray, List.set_cons_zero, List.set_cons_succ]
      have hOld := hHeld
      clear hHeld
      refine wpAnyH_ready (rs := [1, 7]) (by kernel_rfl) (by simp) ?_
      refine AllReadyH.cons (o := ?oR3_33) ?eR3_33 (fun K hK => ?_) (AllReadyH.cons (o := ?pR3_33) ?fR3_33 (fun K hK => ?_) AllReadyH.nil)
      case eR3_33 => simp only [List.getElem?_toArray, List.getElem?_cons_succ, List.getElem?_cons_zero]; rfl
      case fR3_33 => simp only [List.getElem?_toArray, List.getElem?_cons_succ, List.getElem?_cons_zero]; rfl
      · go_simp
        (go_at_call 31; refine Calls.mono (lfile_any 2 [100] [101] _ (by decide) (by decide) u64_2) ?_; rintro _ x1 ⟨vk, vv, rfl, hk, hv, hb1⟩; obtain ⟨ka, kc, rfl⟩ := hk.isSlice; obtain ⟨va, vc, rfl⟩ := hv.isSlice; have hk := hk.any; have hv := hv.any; have HB1 : Hid (Below w6.heap.size w6 x1) := HB0.out.trans (hb1.mono HB0.out.size))
        try go_wp2_with fail
        refine hK.out _ _ (HKP.out _ HB1.out) (fun hHeld => ?_)
        clear hK hOld
        try simp only [Act.put, List.setIfInBounds_toArray, List.set_cons_zero, List.set_cons_succ]
        have hOld := hHeld
        clear hHeld
        refine wpAnyH_ready (rs := [2, 7]) (by kernel_rfl) (by simp) ?_
        refine AllReadyH.cons (o := ?oR3_34) ?eR3_34 (fun K hK => ?_) (AllReadyH.cons (o := ?pR3_34) ?fR3_34 (fun K hK => ?_) AllReadyH.nil)
        case eR3_34 => simp only [List.getElem?_toArray, List.getElem?_cons_succ, List.getElem?_cons_zero]; rfl
        case fR3_34 => simp only [List.getElem?_toArray, List.getElem?_cons_succ, List.getElem?_cons_zero]; rfl
        · go_simp
          (go_at_call 30; refine Calls.mono (ladd_any 3 fC (.slice ka 1 kc) (.slice va 1 vc) _ hk hv (wf_lfil u64_2) u64_3) ?_; rintro _ x2 ⟨b2, rfl, he, hb2⟩; have HB2 : Hid (Below w6.heap.size w6 x2) := HB1.out.trans (hb2.mono HB1.out.size))
          try go_wp2_with fail
          refine hK.out _ _ (HKP.out _ HB2.out) (fun hHeld => ?_)
          clear hK hOld
          try simp only [Act.put, List.setIfInBounds_toArray, List.set_cons_zero, List.set_cons_succ]
          have hOld := hHeld
          clear hHeld
          refine wpAnyH_ready (rs := [3, 7]) (by kernel_rfl) (by simp) ?_
          refine AllReadyH.cons (o := ?oR3_35) ?eR3_35 (fun K hK => ?_) (AllReadyH.cons (o := ?pR3_35) ?fR3_35 (fun K hK => ?_) AllReadyH.nil)
          case eR3_35 => simp only [List.getElem?_toArray, List.getElem?_cons_succ, List.getElem?_cons_zero]; rfl
          case fR3_35 => simp only [List.getElem?_toArray, List.getElem?_cons_succ, List.getElem?_cons_zero]; rfl
          · go_simp
            (go_at_call 28; refine Calls.mono (apply_to 5 ap_two rfl (.slice xa 5 xac) (.slice none 0 0) (.slice (some ⟨b2, 0, none⟩) 1 1) _ (HR6.out.below HB2.out) ⟨u64_2, u64_0, u64_0⟩ (by decide) he (by decide) (by decide) (adds1 (by decide) (by decide))) ?_; rintro _ x3 ⟨a3, c3, rfl, hr3, hb3⟩; have HB3 : Hid (Below w6.heap.size w6 x3) := HB2.out.trans (hb3.mono HB2.out.size))
            try go_wp2_with fail
            refine hK.out _ _ (HKP.out _ HB3.out) (fun hHeld => ?_)
            clear hK hOld
            try simp only [Act.put, List.setIfInBounds_toArray, List.set_cons_zero, List.set_cons_succ]
            refine wpAnyH_take (i := 4) (oi := ?oR3_36_4) (v := ?vR3_36_4) ?eR3_36_4 (by kernel_rfl) (by kernel_rfl) (by kernel_rfl) ?qR3_36_4 (Or.inl ⟨?wR3_36_4, ?yR3_36_4⟩) (by assumption) ?rR3_36_4
            case eR3_36_4 => simp only [List.getElem?_toArray, List.getElem?_cons_succ, List.getElem?_cons_zero]; rfl
            case wR3_36_4 => rfl
            case qR3_36_4 => exact fun _ _ _ h => h
            case yR3_36_4 => (intro w hSw; (try dsimp only at hSw); go_simp; try with_reducible rfl)
            try simp only [Act.put, List.setIfInBounds_toArray, List.set_cons_zero, List.set_cons_succ]
            refine wpAnyH_take (i := 5) (oi := ?oR3_37_5) (v := ?vR3_37_5) ?eR3_37_5 (by kernel_rfl) (by kernel_rfl) (by kernel_rfl) ?qR3_37_5 (Or.inl ⟨?wR3_37_5, ?yR3_37_5⟩) (by assumption) ?rR3_37_5
            case eR3_37_5 => simp only [List.getElem?_toArray, List.getElem?_cons_succ, List.getElem?_cons_zero]; rfl
            case wR3_37_5 => rfl
            case qR3_37_5 => exact fun _ _ _ h => h
            case yR3_37_5 => (intro w hSw; (try dsimp only at hSw); go_simp; try with_reducible rfl)
            try simp only [Act.put, List.setIfInBounds_toArray, List.set_cons_zero, List.set_cons_succ]
            refine wpAnyH_take (i := 6) (oi := ?oR3_38_6) (v := ?vR3_38_6) ?eR3_38_6 (by kernel_rfl) (by kernel_rfl) (by kernel_rfl) ?qR3_38_6 (Or.inl ⟨?wR3_38_6, ?yR3_38_6⟩) (by assumption) ?rR3_38_6
            case eR3_38_6 => simp only [List.getElem?_toArray, List.getElem?_cons_succ, List.getElem?_cons_zero]; rfl
            case wR3_38_6 => rfl
            case qR3_38_6 => exact fun _ _ _ h => h
            case yR3_38_6 => (intro w hSw; (try dsimp only at hSw); go_simp; try with_reducible rfl)
            try simp only [Act.put, List.setIfInBounds_toArray, List.set_cons_zero, List.set_cons_succ]
            have hOld := hHeld
            clear hHeld
            refine wpAnyH_ready (rs := [7]) (by kernel_rfl) (by simp) ?_
            refine AllReadyH.cons (o := ?oR3_39_7) ?eR3_39_7 (fun K hK => ?_) AllReadyH.nil
            case eR3_39_7 => simp only [List.getElem?_toArray, List.getElem?_cons_succ, List.getElem?_cons_zero]; rfl
            go_simp
            skip
            try go_wp2_with fail
            refine hK.out _ _ (HKP.out _ (HB3.out.alloc HB3.out.size _)) (fun hHeld => ?_)
            clear hK hOld
            try simp only [Act.put, List.setIfInBounds_toArray, List.set_cons_zero, List.set_cons_succ]
            have hOld := hHeld
            clear hHeld
            refine wpAnyH_ready (rs := [8]) (by kernel_rfl) (by simp) ?_
            refine AllReadyH.cons (o := ?oR3_40_8) ?eR3_40_8 (fun K hK => ?_) AllReadyH.nil
            case eR3_40_8 => simp only [List.getElem?_toArray, List.getElem?_cons_succ, List.getElem?_cons_zero]; rfl
            go_simp
            skip
            try go_wp2_with fail
            refine hK.out _ _ (HKP.out _ (HB3.out.alloc HB3.out.size _)) (fun hHeld => ?_)
            clear hK hOld
            try simp only [Act.put, List.setIfInBounds_toArray, List.set_cons_zero, List.set_cons_succ]
            refine wpAnyH_take (i := 9) (oi := ?oR3_41_9) (v := ?vR3_41_9) ?eR3_41_9 (by kernel_rfl) (by kernel_rfl) (by kernel_rfl) ?qR3_41_9 (Or.inl ⟨?wR3_41_9, ?yR3_41_9⟩) (by assumption) ?rR3_41_9
            case eR3_41_9 => simp only [List.getElem?_toArray, List.getElem?_cons_succ, List.getElem?_cons_zero]; rfl
            case wR3_41_9 => rfl
            case qR3_41_9 => exact fun _ _ _ h => h
            case yR3_41_9 => (intro w hSw; (try dsimp only at hSw); go_simp; try with_reducible rfl)
            try simp only [Act.put, List.setIfInBounds_toArray, List.set_cons_zero, List.set_cons_succ]
            refine wpAnyH_done (by kernel_rfl) ?_ _
            go_wp2_with fail
            go_meet
            exact ⟨rfl, _, _, _, rfl, Blk.at_new rfl rfl, hr3.any.below ((Below.refl _ _).alloc (Nat.le_refl _) _), HB3.out.alloc HB3.out.size _⟩
          · go_simp
            skip
            try go_wp2_with fail
            refine hK.out _ _ (HKP.out _ (HB2.out.alloc HB2.out.size _)) (fun hHeld => ?_)
            clear hK hOld
            try simp only [Act.put, List.setIfInBounds_toArray, List.set_cons_zero, List.set_cons_succ]
            have hOld := hHeld
            clear hHeld
            refine wpAnyH_ready (rs := [3]) (by kernel_rfl) (by simp) ?_
            refine AllReadyH.cons (o := ?oR3_42_3) ?eR3_42_3 (fun K hK => ?_) AllReadyH.nil
            case eR3_42_3 => simp only [List.getElem?_toArray, List.getElem?_cons_succ, List.getElem?_cons_zero]; rfl
            go_simp
            (go_at_call 28; refine calls_gen fun y2 hy2 => ?_; have HZ : Hid (Blk y2 x2.heap.size zero4 25) := (by rw [hy2]; exact Blk.at_new rfl rfl); have HYy2 : Hid (Below x2.heap.size x2 y2) := (by rw [hy2]; exact (Below.refl _ _).alloc (Nat.le_refl _) _); have HBy2 : Hid (Below w6.heap.size w6 y2) := HB2.out.trans (HYy2.out.mono HB2.out.size); have he := he.below HYy2.out; refine Calls.mono (apply_to 5 ap_two rfl (.slice xa 5 xac) (.slice none 0 0) (.slice (some ⟨b2, 0, none⟩) 1 1) _ (HR6.out.below HBy2.out) ⟨u64_2, u64_0, u64_0⟩ (by decide) he (by decide) (by decide) (adds1 (by decide) (by decide))) ?_; rintro _ x3 ⟨a3, c3, rfl, hr3, hb3⟩; have HB3 : Hid (Below w6.heap.size w6 x3) := HBy2.out.trans (hb3.mono HBy2.out.size); have HOL := Lib.hid HZ.out.lt; have HZ := Lib.hid (HZ.out.below hb3 HZ.out.lt); obtain ⟨r0, r1, r2, r3, f0, f1, f2, f3⟩ := zero4_cells HZ.out)
            try go_wp2_with fail
            refine hK.out _ _ (HKP.out _ HB3.out) (fun hHeld => ?_)
            clear hK hOld
            try simp only [Act.put, List.setIfInBounds_toArray, List.set_cons_zero, List.set_cons_succ]
            refine wpAnyH_take (i := 4) (oi := ?oR3_43_4) (v := ?vR3_43_4) ?eR3_43_4 (by kernel_rfl) (by kernel_rfl) (by kernel_rfl) ?qR3_43_4 (Or.inl ⟨?wR3_43_4, ?yR3_43_4⟩) (by assumption) ?rR3_43_4
            case eR3_43_4 => simp only [List.getElem?_toArray, List.getElem?_cons_succ, List.getElem?_cons_zero]; rfl
            case wR3_43_4 => rfl
            case qR3_43_4 => exact fun _ _ _ h => h
            case yR3_43_4 => (intro w hSw; (try dsimp only at hSw); go_simp; try with_reducible rfl)
            try simp only [Act.put, List.setIfInBounds_toArray, List.set_cons_zero, List.set_cons_succ]
            refine wpAnyH_take (i := 5) (oi := ?oR3_44_5) (v := ?vR3_44_5) ?eR3_44_5 (by kernel_rfl) (by kernel_rfl) (by kernel_rfl) ?qR3_44_5 (Or.inl ⟨?wR3_44_5, ?yR3_44_5⟩) (by assumption) ?rR3_44_5
            case eR3_44_5 => simp only [List.getElem?_toArray, List.getElem?_cons_succ, List.getElem?_cons_zero]; rfl
            case wR3_44_5 => rfl
            case qR3_44_5 => exact fun _ _ _ h => h
            case yR3_44_5 => (intro w hSw; (try dsimp only at hSw); go_simp; try with_reducible rfl)
            try simp only [Act.put, List.setIfInBounds_toArray, List.set_cons_zero, List.set_cons_succ]
            refine wpAnyH_take (i := 6) (oi := ?oR3_45_6) (v := ?vR3_45_6) ?eR3_45_6 (by kernel_rfl) (by kernel_rfl) (by kernel_rfl) ?qR3_45_6 (Or.inl ⟨?wR3_45_6, ?yR3_45_6⟩) (by assumption) ?rR3_45_6
            case eR3_45_6 => simp only [List.getElem?_toArray, List.getElem?_cons_succ, List.getElem?_cons_zero]; rfl
            case wR3_45_6 => rfl
            case qR3_45_6 => exact fun _ _ _ h => h
            case yR3_45_6 => (intro w hSw; (try dsimp only at hSw); go_simp; try with_reducible rfl)
            try simp only [Act.put, List.setIfInBounds_toArray, List.set_cons_zero, List.set_cons_succ]
            have hOld := hHeld
            clear hHeld
            refine wpAnyH_ready (rs := [8]) (by kernel_rfl) (by simp) ?_
            refine AllReadyH.cons (o := ?oR3_46_8) ?eR3_46_8 (fun K hK => ?_) AllReadyH.nil
            case eR3_46_8 => simp only [List.getElem?_toArray, List.getElem?_cons_succ, List.getElem?_cons_zero]; rfl
            go_simp
            skip
            try go_wp2_with fail
            refine hK.out _ _ (HKP.out _ (below_set4 HB3.out (by first | exact Nat.le_refl _ | exact HB1.out.size | exact HB2.out.size))) (fun hHeld => ?_)
            clear hK hOld
            try simp only [Act.put, List.setIfInBounds_toArray, List.set_cons_zero, List.set_cons_succ]
            refine wpAnyH_take (i := 9) (oi := ?oR3_47_9) (v := ?vR3_47_9) ?eR3_47_9 (by kernel_rfl) (by kernel_rfl) (by kernel_rfl) ?qR3_47_9 (Or.inl ⟨?wR3_47_9, ?yR3_47_9⟩) (by assumption) ?rR3_47_9
            case eR3_47_9 => simp only [List.getElem?_toArray, List.getElem?_cons_succ, List.getElem?_cons_zero]; rfl
            case wR3_47_9 => rfl
            case qR3_47_9 => exact fun _ _ _ h => h
            case yR3_47_9 => (intro w hSw; (try dsimp only at hSw); go_simp; try with_reducible rfl)
            try simp only [Act.put, List.setIfInBounds_toArray, List.set_cons_zero, List.set_cons_succ]
            refine wpAnyH_done (by kernel_rfl) ?_ _
            go_wp2_with fail
            go_meet
            exact lvVer_set HZ.out hr3 HOL.out HB3.out (by first | exact Nat.le_refl _ | exact HB1.out.size | exact HB2.out.size)
        · go_simp
          skip
          try go_wp2_with fail
          refine hK.out _ _ (HKP.out _ (HB1.out.alloc HB1.out.size _)) (fun hHeld => ?_)
          clear hK hOld
          try simp only [Act.put, List.setIfInBounds_toArray, List.set_cons_zero, List.set_cons_succ]
          have hOld := hHeld
          clear hHeld
          refine wpAnyH_ready (rs := [2]) (by kernel_rfl) (by simp) ?_
          refine AllReadyH.cons (o := ?oR3_48_2) ?eR3_48_2 (fun K hK => ?_) AllReadyH.nil
          case eR3_48_2 => simp only [List.getElem?_toArray, List.getElem?_cons_succ, List.getElem?_cons_zero]; rfl
          go_simp
          (go_at_call 30; refine calls_gen fun y1 hy1 => ?_; have HZ : Hid (Blk y1 x1.heap.size zero4 25) := (by rw [hy1]; exact Blk.at_new rfl rfl); have HYy1 : Hid (Below x1.heap.size x1 y1) := (by rw [hy1]; exact (Below.refl _ _).alloc (Nat.le_refl _) _); have HBy1 : Hid (Below w6.heap.size w6 y1) := HB1.out.trans (HYy1.out.mono HB1.out.size); have hk := hk.below HYy1.out; have hv := hv.below HYy1.out; refine Calls.mono (ladd_any 3 fC (.slice ka 1 kc) (.slice va 1 vc) _ hk hv (wf_lfil u64_2) u64_3) ?_; rintro _ x2 ⟨b2, rfl, he, hb2⟩; have HB2 : Hid (Below w6.heap.size w6 x2) := HBy1.out.trans (hb2.mono HBy1.out.size); have HZ := Lib.hid (HZ.out.below hb2 HZ.out.lt))
          try go_wp2_with fail
          refine hK.out _ _ (HKP.out _ HB2.out) (fun hHeld => ?_)
          clear hK hOld
          try simp only [Act.put, List.setIfInBounds_toArray, List.set_cons_zero, List.set_cons_succ]
          have hOld := hHeld
          clear hHeld
          refine wpAnyH_ready (rs := [3]) (by kernel_rfl) (by simp) ?_
          refine AllReadyH.cons (o := ?oR3_49_3) ?eR3_49_3 (fun K hK => ?_) AllReadyH.nil
          case eR3_49_3 => simp only [List.getElem?_toArray, List.getElem?_cons_succ, List.getElem?_cons_zero]; rfl
          go_simp
          (go_at_call 28; refine Calls.mono (apply_to 5 ap_two rfl (.slice xa 5 xac) (.slice none 0 0) (.slice (some ⟨b2, 0, none⟩) 1 1) _ (HR6.out.below HB2.out) ⟨u64_2, u64_0, u64_0⟩ (by decide) he (by decide) (by decide) (adds1 (by decide) (by decide))) ?_; rintro _ x3 ⟨a3, c3, rfl, hr3, hb3⟩; have HB3 : Hid (Below w6.heap.size w6 x3) := HB2.out.trans (hb3.mono HB2.out.size); have HOL := Lib.hid HZ.out.lt; have HZ := Lib.hid (HZ.out.below hb3 HZ.out.lt); obtain ⟨r0, r1, r2, r3, f0, f1, f2, f3⟩ := zero4_cells HZ.out)
          try go_wp2_with fail
          refine hK.out _ _ (HKP.out _ HB3.out) (fun hHeld => ?_)
          clear hK hOld
          try simp only [Act.put, List.setIfInBounds_toArray, List.set_cons_zero, List.set_cons_succ]
          refine wpAnyH_take (i := 4) (oi := ?oR3_50_4) (v := ?vR3_50_4) ?eR3_50_4 (by kernel_rfl) (by kernel_rfl) (by kernel_rfl) ?qR3_50_4 (Or.inl ⟨?wR3_50_4, ?yR3_50_4⟩) (by assumption) ?rR3_50_4
          case eR3_50_4 => simp only [List.getElem?_toArray, List.getElem?_cons_succ, List.getElem?_cons_zero]; rfl
          case wR3_50_4 => rfl
          case qR3_50_4 => exact fun _ _ _ h => h
          case yR3_50_4 => (intro w hSw; (try dsimp only at hSw); go_simp; try with_reducible rfl)
          try simp only [Act.put, List.setIfInBounds_toArray, List.set_cons_zero, List.set_cons_succ]
          refine wpAnyH_take (i := 5) (oi := ?oR3_51_5) (v := ?vR3_51_5) ?eR3_51_5 (by kernel_rfl) (by kernel_rfl) (by kernel_rfl) ?qR3_51_5 (Or.inl ⟨?wR3_51_5, ?yR3_51_5⟩) (by assumption) ?rR3_51_5
          case eR3_51_5 => simp only [List.getElem?_toArray, List.getElem?_cons_succ, List.getElem?_cons_zero]; rfl
          case wR3_51_5 => rfl
          case qR3_51_5 => exact fun _ _ _ h => h
          case yR3_51_5 => (intro w hSw; (try dsimp only at hSw); go_simp; try with_reducible rfl)
          try simp only [Act.put, List.setIfInBounds_toArray, List.set_cons_zero, List.set_cons_succ]
          refine wpAnyH_take (i := 6) (oi := ?oR3_52_6) (v := ?vR3_52_6) ?eR3_52_6 (by kernel_rfl) (by kernel_rfl) (by kernel_rfl) ?qR3_52_6 (Or.inl ⟨?wR3_52_6, ?yR3_52_6⟩) (by assumption) ?rR3_52_6
          case eR3_52_6 => simp only [List.getElem?_toArray, List.getElem?_cons_succ, List.getElem?_cons_zero]; rfl
          case wR3_52_6 => rfl
          case qR3_52_6 => exact fun _ _ _ h => h
          case yR3_52_6 => (intro w hSw; (try dsimp only at hSw); go_simp; try with_reducible rfl)
          try simp only [Act.put, List.setIfInBounds_toArray, List.set_cons_zero, List.set_cons_succ]
          have hOld := hHeld
          clear hHeld
          refine wpAnyH_ready (rs := [8]) (by kernel_rfl) (by simp) ?_
          refine AllReadyH.cons (o := ?oR3_53_8) ?eR3_53_8 (fun K hK => ?_) AllReadyH.nil
          case eR3_53_8 => simp only [List.getElem?_toArray, List.getElem?_cons_succ, List.getElem?_cons_zero]; rfl
          go_simp
          skip
          try go_wp2_with fail
          refine hK.out _ _ (HKP.out _ (below_set4 HB3.out (by first | exact Nat.le_refl _ | exact HB1.out.size | exact HB2.out.size))) (fun hHeld => ?_)
          clear hK hOld
          try simp only [Act.put, List.setIfInBounds_toArray, List.set_cons_zero, List.set_cons_succ]
          refine wpAnyH_take (i := 9) (oi := ?oR3_54_9) (v := ?vR3_54_9) ?eR3_54_9 (by kernel_rfl) (by kernel_rfl) (by kernel_rfl) ?qR3_54_9 (Or.inl ⟨?wR3_54_9, ?yR3_54_9⟩) (by assumption) ?rR3_54_9
          case eR3_54_9 => simp only [List.getElem?_toArray, List.getElem?_cons_succ, List.getElem?_cons_zero]; rfl
          case wR3_54_9 => rfl
          case qR3_54_9 => exact fun _ _ _ h => h
          case yR3_54_9 => (intro w hSw; (try dsimp only at hSw); go_simp; try with_reducible rfl)
          try simp only [Act.put, List.setIfInBounds_toArray, List.set_cons_zero, List.set_cons_succ]
          refine wpAnyH_done (by kernel_rfl) ?_ _
          go_wp2_with fail
          go_meet
          exact lvVer_set HZ.out hr3 HOL.out HB3.out (by first | exact Nat.le_refl _ | exact HB1.out.size | exact HB2.out.size)
      · go_simp
        skip
        try go_wp2_with fail
        refine hK.out _ _ (HKP.out _ (HB0.out.alloc HB0.out.size _)) (fun hHeld => ?_)
        clear hK hOld
        try simp only [Act.put, List.setIfInBounds_toArray, List.set_cons_zero, List.set_cons_succ]
        have hOld := hHeld
        clear hHeld
        refine wpAnyH_ready (rs := [1]) (by kernel_rfl) (by simp) ?_
        refine AllReadyH.cons (o := ?oR3_55_1) ?eR3_55_1 (fun K hK => ?_) AllReadyH.nil
        case eR3_55_1 => simp only [List.getElem?_toArray, List.getElem?_cons_succ, List.getElem?_cons_zero]; rfl
        go_simp
        (go_at_call 31; refine calls_gen fun y0 hy0 => ?_; have HZ : Hid (Blk y0 w6.heap.size zero4 25) := (by rw [hy0]; first | exact Blk.drewP (Blk.at_new rfl rfl) | exact Blk.at_new rfl rfl); have HBy0 : Hid (Below w6.heap.size w6 y0) := (by rw [hy0]; first | exact below_drew ((Below.refl _ _).alloc (Nat.le_refl _) _) | exact (below_drew (Below.refl _ _)).alloc (Nat.le_refl _) _); refine Calls.mono (lfile_any 2 [100] [101] _ (by decide) (by decide) u64_2) ?_; rintro _ x1 ⟨vk, vv, rfl, hk, hv, hb1⟩; obtain ⟨ka, kc, rfl⟩ := hk.isSlice; obtain ⟨va, vc, rfl⟩ := hv.isSlice; have hk := hk.any; have hv := hv.any; have HB1 : Hid (Below w6.heap.size w6 x1) := HBy0.out.trans (hb1.mono HBy0.out.size); have HZ := Lib.hid (HZ.out.below hb1 HZ.out.lt))
        try go_wp2_with fail
        refine hK.out _ _ (HKP.out _ HB1.out) (fun hHeld => ?_)
        clear hK hOld
        try simp only [Act.put, List.setIfInBounds_toArray, List.set_cons_zero, List.set_cons_succ]
        have hOld := hHeld
        clear hHeld
        refine wpAnyH_ready (rs := [2]) (by kernel_rfl) (by simp) ?_
        refine AllReadyH.cons (o := ?oR3_56_2) ?eR3_56_2 (fun K hK => ?_) AllReadyH.nil
        case eR3_56_2 => simp only [List.getElem?_toArray, List.getElem?_cons_succ, List.getElem?_cons_zero]; rfl
        go_simp
        (go_at_call 30; refine Calls.mono (ladd_any 3 fC (.slice ka 1 kc) (.slice va 1 vc) _ hk hv (wf_lfil u64_2) u64_3) ?_; rintro _ x2 ⟨b2, rfl, he, hb2⟩; have HB2 : Hid (Below w6.heap.size w6 x2) := HB1.out.trans (hb2.mono HB1.out.size); have HZ := Lib.hid (HZ.out.below hb2 HZ.out.lt))
        try go_wp2_with fail
        refine hK.out _ _ (HKP.out _ HB2.out) (fun hHeld => ?_)
        clear hK hOld
        try simp only [Act.put, List.setIfInBounds_toArray, List.set_cons_zero, List.set_cons_succ]
        have hOld := hHeld
        clear hHeld
        refine wpAnyH_ready (rs := [3]) (by kernel_rfl) (by simp) ?_
        refine AllReadyH.cons (o := ?oR3_57_3) ?eR3_57_3 (fun K hK => ?_) AllReadyH.nil
        case eR3_57_3 => simp only [List.getElem?_toArray, List.getElem?_cons_succ, List.getElem?_cons_zero]; rfl
        go_simp
        (go_at_call 28; refine Calls.mono (apply_to 5 ap_two rfl (.slice xa 5 xac) (.slice none 0 0) (.slice (some ⟨b2, 0, none⟩) 1 1) _ (HR6.out.below HB2.out) ⟨u64_2, u64_0, u64_0⟩ (by decide) he (by decide) (by decide) (adds1 (by decide) (by decide))) ?_; rintro _ x3 ⟨a3, c3, rfl, hr3, hb3⟩; have HB3 : Hid (Below w6.heap.size w6 x3) := HB2.out.trans (hb3.mono HB2.out.size); have HOL := Lib.hid HZ.out.lt; have HZ := Lib.hid (HZ.out.below hb3 HZ.out.lt); obtain ⟨r0, r1, r2, r3, f0, f1, f2, f3⟩ := zero4_cells HZ.out)
        try go_wp2_with fail
        refine hK.out _ _ (HKP.out _ HB3.out) (fun hHeld => ?_)
        clear hK hOld
        try simp only [Act.put, List.setIfInBounds_toArray, List.set_cons_zero, List.set_cons_succ]
        refine wpAnyH_take (i := 4) (oi := ?oR3_58_4) (v := ?vR3_58_4) ?eR3_58_4 (by kernel_rfl) (by kernel_rfl) (by kernel_rfl) ?qR3_58_4 (Or.inl ⟨?wR3_58_4, ?yR3_58_4⟩) (by assumption) ?rR3_58_4
        case eR3_58_4 => simp only [List.getElem?_toArray, List.getElem?_cons_succ, List.getElem?_cons_zero]; rfl
        case wR3_58_4 => rfl
        case qR3_58_4 => exact fun _ _ _ h => h
        case yR3_58_4 => (intro w hSw; (try dsimp only at hSw); go_simp; try with_reducible rfl)
        try simp only [Act.put, List.setIfInBounds_toArray, List.set_cons_zero, List.set_cons_succ]
        refine wpAnyH_take (i := 5) (oi := ?oR3_59_5) (v := ?vR3_59_5) ?eR3_59_5 (by kernel_rfl) (by kernel_rfl) (by kernel_rfl) ?qR3_59_5 (Or.inl ⟨?wR3_59_5, ?yR3_59_5⟩) (by assumption) ?rR3_59_5
        case eR3_59_5 => simp only [List.getElem?_toArray, List.getElem?_cons_succ, List.getElem?_cons_zero]; rfl
        case wR3_59_5 => rfl
        case qR3_59_5 => exact fun _ _ _ h => h
        case yR3_59_5 => (intro w hSw; (try dsimp only at hSw); go_simp; try with_reducible rfl)
        try simp only [Act.put, List.setIfInBounds_toArray, List.set_cons_zero, List.set_cons_succ]
        refine wpAnyH_take (i := 6) (oi := ?oR3_60_6) (v := ?vR3_60_6) ?eR3_60_6 (by kernel_rfl) (by kernel_rfl) (by kernel_rfl) ?qR3_60_6 (Or.inl ⟨?wR3_60_6, ?yR3_60_6⟩) (by assumption) ?rR3_60_6
        case eR3_60_6 => simp only [List.getElem?_toArray, List.getElem?_cons_succ, List.getElem?_cons_zero]; rfl
        case wR3_60_6 => rfl
        case qR3_60_6 => exact fun _ _ _ h => h
        case yR3_60_6 => (intro w hSw; (try dsimp only at hSw); go_simp; try with_reducible rfl)
        try simp only [Act.put, List.setIfInBounds_toArray, List.set_cons_zero, List.set_cons_succ]
        have hOld := hHeld
        clear hHeld
        refine wpAnyH_ready (rs := [8]) (by kernel_rfl) (by simp) ?_
        refine AllReadyH.cons (o := ?oR3_61_8) ?eR3_61_8 (fun K hK => ?_) AllReadyH.nil
        case eR3_61_8 => simp only [List.getElem?_toArray, List.getElem?_cons_succ, List.getElem?_cons_zero]; rfl
        go_simp
        skip
        try go_wp2_with fail
        refine hK.out _ _ (HKP.out _ (below_set4 HB3.out (by first | exact Nat.le_refl _ | exact HB1.out.size | exact HB2.out.size))) (fun hHeld => ?_)
        clear hK hOld
        try simp only [Act.put, List.setIfInBounds_toArray, List.set_cons_zero, List.set_cons_succ]
        refine wpAnyH_take (i := 9) (oi := ?oR3_62_9) (v := ?vR3_62_9) ?eR3_62_9 (by kernel_rfl) (by kernel_rfl) (by kernel_rfl) ?qR3_62_9 (Or.inl ⟨?wR3_62_9, ?yR3_62_9⟩) (by assumption) ?rR3_62_9
        case eR3_62_9 => simp only [List.getElem?_toArray, List.getElem?_cons_succ, List.getElem?_cons_zero]; rfl
        case wR3_62_9 => rfl
        case qR3_62_9 => exact fun _ _ _ h => h
        case yR3_62_9 => (intro w hSw; (try dsimp only at hSw); go_simp; try with_reducible rfl)
        try simp only [Act.put, List.setIfInBounds_toArray, List.set_cons_zero, List.set_cons_succ]
        refine wpAnyH_done (by kernel_rfl) ?_ _
        go_wp2_with fail
        go_meet
        exact lvVer_set HZ.out hr3 HOL.out HB3.out (by first | exact Nat.le_refl _ | exact HB1.out.size | exact HB2.out.size)
    case rest =>
      obtain ⟨rfl, ob, oa, oc, rfl, hob, hor, hb7⟩ := hcut.out
      have HOB := Lib.hid hob
      have HOR := Lib.hid hor
      have HB7 : Hid (Below w.heap.size w wc) := HB6.out.trans (hb7.mono HB6.out.size)
      clear hob hor hb7 hcut HX6 HR6 HB6
      unfold vTwo at HOB
      have x0 : wc.cell? ⟨ob, 0, none⟩ = some (.slice oa 5 oc) := HOB.out.cell rfl
      have x1 : wc.cell? ⟨ob, 1, none⟩ = some (.int .u64 3) := HOB.out.cell rfl
      have x2 : wc.cell? ⟨ob, 2, none⟩ = some (.int .u64 0) := HOB.out.cell rfl
      have x3 : wc.cell? ⟨ob, 3, none⟩ = some (.int .u64 0) := HOB.out.cell rfl
      go_wp2_with fail
      clear x0 x1 x2 x3
      refine calls_gen fun w8 hw8 => ?_
      have HB78 : Hid (Below wc.heap.size wc w8) := by rw [hw8]; exact (Below.refl _ _).alloc (Nat.le_refl _) _
      have HD8 : Hid (EdiAt Any w8 eDrop (.slice (some ⟨wc.heap.size, 0, none⟩) 1 1) (.slice none 0 0)) := ⟨(rw_lit (K := dropK) (F := Any) (n := 1) (xs := [(1, 9)]) (T := 100) (c := #[.int .i64 1, .int .u64 9]) (by rw [hw8]; exact Blk.at_new rfl rfl) ⟨⟨rfl, ⟨by show (-9223372036854775808 : Int) ≤ 1; decide, by show (1 : Int) ≤ 9223372036854775807; decide⟩, ⟨by show (0 : Int) ≤ 9; decide, by show (9 : Int) < 18446744073709551616; decide⟩⟩, rfl⟩ rfl (by decide)).any, Rw.nil _ _ _, u64_3, u64_0, u64_0⟩
      have HOB8 := Lib.hid (HOB.out.below HB78.out HOB.out.lt)
      have HOR8 := Lib.hid (HOR.out.below HB78.out)
      have HB8 : Hid (Below w.heap.size w w8) := HB7.out.trans (HB78.out.mono HB7.out.size)
      clear hw8 HB78 HOB HOR HB7
      refine Calls.mono (apply_to 0 ap_none rfl (.slice oa 5 oc) _ _ w8 HOR8.out ⟨u64_3, u64_0, u64_0⟩ (by decide) HD8.out (by decide) (by decide) (fun a ha => by cases ha)) ?_
      rintro _ w9 ⟨xa2, xc2, rfl, _, hb⟩
      have HOB9 := Lib.hid (HOB8.out.below hb HOB8.out.lt)
      have HOR9 := Lib.hid (HOR8.out.below hb)
      have HB9 : Hid (Below w.heap.size w w9) := HB8.out.trans (hb.mono HB8.out.size)
      clear hb HOB8 HOR8 HB8 HD8
      go_upto_region 5 with fail
      refine wp_gen fun wa hwa => ?_
      have HB9a : Hid (Below w9.heap.size w9 wa) := by rw [hwa]; exact (Below.refl _ _).alloc (Nat.le_refl _) _
      have HOBa := Lib.hid (HOB9.out.below HB9a.out HOB9.out.lt)
      have HORa := Lib.hid (HOR9.out.below HB9a.out)
      have HBa : Hid (Below w.heap.size w wa) := HB9.out.trans (HB9a.out.mono HB9.out.size)
      clear hwa HB9a HOB9 HOR9 HB9
      generalize w9.heap.size = gg at *
      have x0 : wa.cell? ⟨ob, 0, none⟩ = some (.slice oa 5 oc) := HOBa.out.cell rfl
      have x1 : wa.cell? ⟨ob, 1, none⟩ = some (.int .u64 3) := HOBa.out.cell rfl
      have x2 : wa.cell? ⟨ob, 2, none⟩ = some (.int .u64 0) := HOBa.out.cell rfl
      have x3 : wa.cell? ⟨ob, 3, none⟩ = some (.int .u64 0) := HOBa.out.cell rfl
      go_wp2_with fail
      clear x0 x1 x2 x3 hcc hcc2
      refine calls_gen fun wd hwd => ?_
      have HBad : Hid (Below wa.heap.size wa wd) := by rw [hwd]; exact below_two _ _ _
      have HL : Hid (Bytes Any wd (.slice (some ⟨wa.heap.size, 0, none⟩) 1 1) [98]) := by
        rw [hwd]
        exact (Bytes.const wa [98] 1 _ _ _ rfl rfl (by decide)).any.below ((Below.refl _ _).alloc (Nat.le_refl _) _)
      have HM : Hid (Bytes Any wd (.slice (some ⟨wa.heap.size + 1, 0, none⟩) 1 1) [100]) := by
        rw [hwd]
        have h := (Bytes.const (wa.alloc (.cells #[.int .u8 98] 5 (1, 2))) [100] 1 #[.int .u8 100] 5 (1, 2) rfl rfl (by decide)).any
        rw [size_one] at h
        exact h
      have HBd : Hid (Below w.heap.size w wd) := HBa.out.trans (HBad.out.mono HBa.out.size)
      have HRd := Lib.hid (HORa.out.below HBad.out)
      clear hwd HBad HOBa HORa HBa
      refine Calls.mono (overlap_any _ _ _ vTwo _ 1 [98] [100] _ _ wd HRd.out ⟨u64_3, u64_0, u64_0⟩ (by decide) ⟨by decide, by decide⟩ HL.out HM.out) ?_
      rintro _ we ⟨vo, rfl, ho, hb⟩
      have HBe : Hid (Below w.heap.size w we) := HBd.out.trans (hb.mono HBd.out.size)
      obtain ⟨oa2, oc2, rfl⟩ := ho.isSlice
      rw [over_two]
      clear ho hb HL HM HBd HRd
      go_wp2_with fail
      go_ret
      exact ⟨rfl, HBe.out⟩
end Go.Proofs.Ytkcohhldmhdcfaa
