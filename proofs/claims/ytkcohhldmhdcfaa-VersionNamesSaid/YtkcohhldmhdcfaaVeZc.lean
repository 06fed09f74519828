/- The law VersionNames: its walk. -/
import Derived.Test.YtkcohhldmhdcfaaVeZb
namespace Go.Proofs.Ytkcohhldmhdcfaa
open Go.RowKit

set_option maxRecDepth 100000 in
set_option maxHeartbeats 16000000 in
theorem versionNames_any (w : World) :
    Calls Try.prog 6 #[] w fun x w' => x = .returned (.bool true) ∧ Below w.heap.size w w' := by
  have hcc := conv_const
  have hcc2 := conv_const2
  go_enter Try.func6, Try.ntmps6
  go_wp2_with fail
  refine Calls.mono (first_any w) ?_
  rintro _ w1 ⟨b1, rfl, hr, hb⟩
  have HR1 := Lib.hid hr
  have HB1 := Lib.hid hb
  clear hr hb
  unfold verCells firstV
  go_wp2_with fail
  refine Calls.mono (lfile_any 1 [97] [99] w1 (by decide) (by decide) u64_1) ?_
  rintro _ w2 ⟨vk, vv, rfl, hk, hv, hb⟩
  obtain ⟨ka, kc, rfl⟩ := hk.isSlice
  obtain ⟨va, vc, rfl⟩ := hv.isSlice
  have HR2 := Lib.hid (HR1.out.below hb)
  have HB2 : Hid (Below w.heap.size w w2) := HB1.out.trans (hb.mono HB1.out.size)
  have HK2 := Lib.hid hk.any
  have HV2 := Lib.hid hv.any
  clear hk hv hb HR1 HB1
  unfold filCells lfil
  go_wp2_with fail
  refine Calls.mono (ladd_any 2 fA (.slice ka 1 kc) (.slice va 1 vc) w2 HK2.out HV2.out (wf_lfil u64_1) u64_2) ?_
  rintro _ w3 ⟨b3, rfl, he, hb⟩
  have HR3 := Lib.hid (HR2.out.below hb)
  have HB3 : Hid (Below w.heap.size w w3) := HB2.out.trans (hb.mono HB2.out.size)
  have HE3 := Lib.hid he
  clear he hb HR2 HB2 HK2 HV2
  unfold ediCells addE
  go_wp2_with fail
  refine Calls.mono (apply_to 5 ap_one rfl (.slice (some ⟨b1, 0, none⟩) 5 5) (.slice none 0 0) (.slice (some ⟨b3, 0, none⟩) 1 1) w3 HR3.out ⟨u64_1, u64_0, u64_0⟩ (by decide) HE3.out (by decide) (by decide) (adds1 (by decide) (by decide))) ?_
  rintro _ w4 ⟨xa, xac, rfl, hr, hb⟩
  have HR4 := Lib.hid hr.any
  have HB4 : Hid (Below w.heap.size w w4) := HB3.out.trans (hb.mono HB3.out.size)
  clear hr hb HR3 HB3 HE3
  unfold vOne
  go_upto_region 2 with fail
  refine wp_gen fun w5 hw5 => ?_
  have HX5 : Hid (Blk w5 w4.heap.size #[.slice xa 5 xac, .int .u64 2, .int .u64 0, .int .u64 0] 25) := by rw [hw5]; exact Blk.at_new rfl rfl
  have HB45 : Hid (Below w4.heap.size w4 w5) := by rw [hw5]; exact (Below.refl _ _).alloc (Nat.le_refl _) _
  have HR5 := Lib.hid (HR4.out.below HB45.out)
  have HB5 : Hid (Below w.heap.size w w5) := HB4.out.trans (HB45.out.mono HB4.out.size)
  clear hw5 HR4 HB4 HB45
  generalize w4.heap.size = vb at *
  go_cut [3, 4] from 12 to 18 (fun _p x wx => Hid (LvErr w5 5 x wx))
  case first =>
    have HKP : Hid (∀ W, Below w5.heap.size w5 W → (W.cell? ⟨vb, 0, none⟩ = some (.slice xa 5 xac) ∧ W.cell? ⟨vb, 1, none⟩ = some (.int .u64 2) ∧ W.cell? ⟨vb, 2, none⟩ = some (.int .u64 0) ∧ W.cell? ⟨vb, 3, none⟩ = some (.int .u64 0))) := fun W hb => ⟨(HX5.out.below hb HX5.out.lt).cell rfl, (HX5.out.below hb HX5.out.lt).cell rfl, (HX5.out.below hb HX5.out.lt).cell rfl, (HX5.out.below hb HX5.out.lt).cell rfl⟩
    have HB0 : Hid (Below w5.heap.size w5 w5.drew) := below_drew (Below.refl _ _)
    refine wp_region_held_drew (S := fun w' => (w'.cell? ⟨vb, 0, none⟩ = some (.slice xa 5 xac) ∧ w'.cell? ⟨vb, 1, none⟩ = some (.int .u64 2) ∧ w'.cell? ⟨vb, 2, none⟩ = some (.int .u64 0) ∧ w'.cell? ⟨vb, 3, none⟩ = some (.int .u64 0))) (by kernel_rfl) (HKP.out _ HB0.out) (fun hHeld => ?_)
    refine wpAnyH_take (i := 0) (oi := ?oR2_63_0) (v := ?vR2_63_0) ?eR2_63_0 (by kernel_rfl) (by kernel_rfl) (by kernel_rfl) ?qR2_63_0 (Or.inl ⟨?wR2_63_0, ?yR2_63_0⟩) (by assumption) ?rR2_63_0
    case eR2_63_0 => simp only [List.getElem?_toArray, List.getElem?_cons_zero]; rfl
    case wR2_63_0 => rfl
    case qR2_63_0 => exact fun _ _ _ h => h
    case yR2_63_0 => (intro w hSw; (try dsimp only at hSw); go_simp; try with_reducible rfl)
    try simp only [Act.put, List.setIfInBounds_toArray, List.set_cons_zero, List.set_cons_succ]
    have hOld := hHeld
    clear hHeld
    refine wpAnyH_ready (rs := [1, 7]) (by kernel_rfl) (by simp) ?_
    refine AllReadyH.cons (o := ?oR2_64) ?eR2_64 (fun K hK => ?_) (AllReadyH.cons (o := ?pR2_64) ?fR2_64 (fun K hK => ?_) AllReadyH.nil)
    case eR2_64 => simp only [List.getElem?_toArray, List.getElem?_cons_succ, List.getElem?_cons_zero]; rfl
    case fR2_64 => simp only [List.getElem?_toArray, List.getElem?_cons_succ, List.getElem?_cons_zero]; rfl
    · go_simp
      (go_at_call 31; refine Calls.mono (lfile_any 1 [120] [121] _ (by decide) (by decide) u64_1) ?_; rintro _ x1 ⟨vk, vv, rfl, hk, hv, hb1⟩; obtain ⟨ka, kc, rfl⟩ := hk.isSlice; obtain ⟨va, vc, rfl⟩ := hv.isSlice; have hk := hk.any; have hv := hv.any; have HB1 : Hid (Below w5.heap.size w5 x1) := HB0.out.trans (hb1.mono HB0.out.size))
      try go_wp2_with fail
      refine hK.out _ _ (HKP.out _ HB1.out) (fun hHeld => ?_)
      clear hK hOld
      try simp only [Act.put, List.setIfInBounds_toArray, List.set_cons_zero, List.set_cons_succ]
      have hOld := hHeld
      clear hHeld
      refine wpAnyH_ready (rs := [2, 7]) (by kernel_rfl) (by simp) ?_
      refine AllReadyH.cons (o := ?oR2_65) ?eR2_65 (fun K hK => ?_) (AllReadyH.cons (o := ?pR2_65) ?fR2_65 (fun K hK => ?_) AllReadyH.nil)
      case eR2_65 => simp only [List.getElem?_toArray, List.getElem?_cons_succ, List.getElem?_cons_zero]; rfl
      case fR2_65 => simp only [List.getElem?_toArray, List.getElem?_cons_succ, List.getElem?_cons_zero]; rfl
      · go_simp
        (go_at_call 30; refine Calls.mono (ladd_any 3 fD (.slice ka 1 kc) (.slice va 1 vc) _ hk hv (wf_lfil u64_1) u64_3) ?_; rintro _ x2 ⟨b2, rfl, he, hb2⟩; have HB2 : Hid (Below w5.heap.size w5 x2) := HB1.out.trans (hb2.mono HB1.out.size))
        try go_wp2_with fail
        refine hK.out _ _ (HKP.out _ HB2.out) (fun hHeld => ?_)
        clear hK hOld
        try simp only [Act.put, List.setIfInBounds_toArray, List.set_cons_zero, List.set_cons_succ]
        have hOld := hHeld
        clear hHeld
        refine wpAnyH_ready (rs := [3, 7]) (by kernel_rfl) (by simp) ?_
        refine AllReadyH.cons (o := ?oR2_66) ?eR2_66 (fun K hK => ?_) (AllReadyH.cons (o := ?pR2_66) ?fR2_66 (fun K hK => ?_) AllReadyH.nil)
        case eR2_66 => simp only [List.getElem?_toArray, List.getElem?_cons_succ, List.getElem?_cons_zero]; rfl
        case fR2_66 => simp only [List.getElem?_toArray, List.getElem?_cons_succ, List.getElem?_cons_zero]; rfl
        · go_simp
          (go_at_call 28; refine Calls.mono (apply_to 0 ap_there rfl (.slice xa 5 xac) (.slice none 0 0) (.slice (some ⟨b2, 0, none⟩) 1 1) _ (HR5.out.below HB2.out) ⟨u64_2, u64_0, u64_0⟩ (by decide) he (by decide) (by decide) (adds1 (by decide) (by decide))) ?_; rintro _ x3 ⟨a3, c3, rfl, hr3, hb3⟩; have HB3 : Hid (Below w5.heap.size w5 x3) := HB2.out.trans (hb3.mono HB2.out.size))
          try go_wp2_with fail
          refine hK.out _ _ (HKP.out _ HB3.out) (fun hHeld => ?_)
          clear hK hOld
          try simp only [Act.put, List.setIfInBounds_toArray, List.set_cons_zero, List.set_cons_succ]
          refine wpAnyH_take (i := 4) (oi := ?oR2_67_4) (v := ?vR2_67_4) ?eR2_67_4 (by kernel_rfl) (by kernel_rfl) (by kernel_rfl) ?qR2_67_4 (Or.inl ⟨?wR2_67_4, ?yR2_67_4⟩) (by assumption) ?rR2_67_4
          case eR2_67_4 => simp only [List.getElem?_toArray, List.getElem?_cons_succ, List.getElem?_cons_zero]; rfl
          case wR2_67_4 => rfl
          case qR2_67_4 => exact fun _ _ _ h => h
          case yR2_67_4 => (intro w hSw; (try dsimp only at hSw); go_simp; try with_reducible rfl)
          try simp only [Act.put, List.setIfInBounds_toArray, List.set_cons_zero, List.set_cons_succ]
          refine wpAnyH_take (i := 5) (oi := ?oR2_68_5) (v := ?vR2_68_5) ?eR2_68_5 (by kernel_rfl) (by kernel_rfl) (by kernel_rfl) ?qR2_68_5 (Or.inl ⟨?wR2_68_5, ?yR2_68_5⟩) (by assumption) ?rR2_68_5
          case eR2_68_5 => simp only [List.getElem?_toArray, List.getElem?_cons_succ, List.getElem?_cons_zero]; rfl
          case wR2_68_5 => rfl
          case qR2_68_5 => exact fun _ _ _ h => h
          case yR2_68_5 => (intro w hSw; (try dsimp only at hSw); go_simp; try with_reducible rfl)
          try simp only [Act.put, List.setIfInBounds_toArray, List.set_cons_zero, List.set_cons_succ]
          refine wpAnyH_take (i := 6) (oi := ?oR2_69_6) (v := ?vR2_69_6) ?eR2_69_6 (by kernel_rfl) (by kernel_rfl) (by kernel_rfl) ?qR2_69_6 (Or.inl ⟨?wR2_69_6, ?yR2_69_6⟩) (by assumption) ?rR2_69_6
          case eR2_69_6 => simp only [List.getElem?_toArray, List.getElem?_cons_succ, List.getElem?_cons_zero]; rfl
          case wR2_69_6 => rfl
          case qR2_69_6 => exact fun _ _ _ h => h
          case yR2_69_6 => (intro w hSw; (try dsimp only at hSw); go_simp; try with_reducible rfl)
          try simp only [Act.put, List.setIfInBounds_toArray, List.set_cons_zero, List.set_cons_succ]
          have hOld := hHeld
          clear hHeld
          refine wpAnyH_ready (rs := [7]) (by kernel_rfl) (by simp) ?_
          refine AllReadyH.cons (o := ?oR2_70_7) ?eR2_70_7 (fun K hK => ?_) AllReadyH.nil
          case eR2_70_7 => simp only [List.getElem?_toArray, List.getElem?_cons_succ, List.getElem?_cons_zero]; rfl
          go_simp
          skip
          try go_wp2_with fail
          refine hK.out _ _ (HKP.out _ (HB3.out.alloc HB3.out.size _)) (fun hHeld => ?_)
          clear hK hOld
          try simp only [Act.put, List.setIfInBounds_toArray, List.set_cons_zero, List.set_cons_succ]
          have hOld := hHeld
          clear hHeld
          refine wpAnyH_ready (rs := [8]) (by kernel_rfl) (by simp) ?_
          refine AllReadyH.cons (o := ?oR2_71_8) ?eR2_71_8 (fun K hK => ?_) AllReadyH.nil
          case eR2_71_8 => simp only [List.getElem?_toArray, List.getElem?_cons_succ, List.getElem?_cons_zero]; rfl
          go_simp
          skip
          try go_wp2_with fail
          refine hK.out _ _ (HKP.out _ (HB3.out.alloc HB3.out.size _)) (fun hHeld => ?_)
          clear hK hOld
          try simp only [Act.put, List.setIfInBounds_toArray, List.set_cons_zero, List.set_cons_succ]
          refine wpAnyH_take (i := 9) (oi := ?oR2_72_9) (v := ?vR2_72_9) ?eR2_72_9 (by kernel_rfl) (by kernel_rfl) (by kernel_rfl) ?qR2_72_9 (Or.inl ⟨?wR2_72_9, ?yR2_72_9⟩) (by assumption) ?rR2_72_9
          case eR2_72_9 => simp only [List.getElem?_toArray, List.getElem?_cons_succ, List.getElem?_cons_zero]; rfl
          case wR2_72_9 => rfl
          case qR2_72_9 => exact fun _ _ _ h => h
          case yR2_72_9 => (intro w hSw; (try dsimp only at hSw); go_simp; try with_reducible rfl)
          try simp only [Act.put, List.setIfInBounds_toArray, List.set_cons_zero, List.set_cons_succ]
          refine wpAnyH_done (by kernel_rfl) ?_ _
          go_wp2_with fail
          go_meet
          exact ⟨rfl, HB3.out.alloc HB3.out.size _⟩
        · go_simp
          skip
          try go_wp2_with fail
          refine hK.out _ _ (HKP.out _ (HB2.out.alloc HB2.out.size _)) (fun hHeld => ?_)
          clear hK hOld
          try simp only [Act.put, List.setIfInBounds_toArray, List.set_cons_zero, List.set_cons_succ]
          have hOld := hHeld
          clear hHeld
          refine wpAnyH_ready (rs := [3]) (by kernel_rfl) (by simp) ?_
          refine AllReadyH.cons (o := ?oR2_73_3) ?eR2_73_3 (fun K hK => ?_) AllReadyH.nil
          case eR2_73_3 => simp only [List.getElem?_toArray, List.getElem?_cons_succ, List.getElem?_cons_zero]; rfl
          go_simp
          (go_at_call 28; refine calls_gen fun y2 hy2 => ?_; have HZ : Hid (Blk y2 x2.heap.size zero4 25) := (by rw [hy2]; exact Blk.at_new rfl rfl); have HYy2 : Hid (Below x2.heap.size x2 y2) := (by rw [hy2]; exact (Below.refl _ _).alloc (Nat.le_refl _) _); have HBy2 : Hid (Below w5.heap.size w5 y2) := HB2.out.trans (HYy2.out.mono HB2.out.size); have he := he.below HYy2.out; refine Calls.mono (apply_to 0 ap_there rfl (.slice xa 5 xac) (.slice none 0 0) (.slice (some ⟨b2, 0, none⟩) 1 1) _ (HR5.out.below HBy2.out) ⟨u64_2, u64_0, u64_0⟩ (by decide) he (by decide) (by decide) (adds1 (by decide) (by decide))) ?_; rintro _ x3 ⟨a3, c3, rfl, hr3, hb3⟩; have HB3 : Hid (Below w5.heap.size w5 x3) := HBy2.out.trans (hb3.mono HBy2.out.size); have HOL := Lib.hid HZ.out.lt; have HZ := Lib.hid (HZ.out.below hb3 HZ.out.lt); obtain ⟨r0, r1, r2, r3, f0, f1, f2, f3⟩ := zero4_cells HZ.out)
          try go_wp2_with fail
          refine hK.out _ _ (HKP.out _ HB3.out) (fun hHeld => ?_)
          clear hK hOld
          try simp only [Act.put, List.setIfInBounds_toArray, List.set_cons_zero, List.set_cons_succ]
          refine wpAnyH_take (i := 4) (oi := ?oR2_74_4) (v := ?vR2_74_4) ?eR2_74_4 (by kernel_rfl) (by kernel_rfl) (by kernel_rfl) ?qR2_74_4 (Or.inl ⟨?wR2_74_4, ?yR2_74_4⟩) (by assumption) ?rR2_74_4
          case eR2_74_4 => simp only [List.getElem?_toArray, List.getElem?_cons_succ, List.getElem?_cons_zero]; rfl
          case wR2_74_4 => rfl
          case qR2_74_4 => exact fun _ _ _ h => h
          case yR2_74_4 => (intro w hSw; (try dsimp only at hSw); go_simp; try with_reducible rfl)
          try simp only [Act.put, List.setIfInBounds_toArray, List.set_cons_zero, List.set_cons_succ]
          refine wpAnyH_take (i := 5) (oi := ?oR2_75_5) (v := ?vR2_75_5) ?eR2_75_5 (by kernel_rfl) (by kernel_rfl) (by kernel_rfl) ?qR2_75_5 (Or.inl ⟨?wR2_75_5, ?yR2_75_5⟩) (by assumption) ?rR2_75_5
          case eR2_75_5 => simp only [List.getElem?_toArray, List.getElem?_cons_succ, List.getElem?_cons_zero]; rfl
          case wR2_75_5 => rfl
          case qR2_75_5 => exact fun _ _ _ h => h
          case yR2_75_5 => (intro w hSw; (try dsimp only at hSw); go_simp; try with_reducible rfl)
          try simp only [Act.put, List.setIfInBounds_toArray, List.set_cons_zero, List.set_cons_succ]
          refine wpAnyH_take (i := 6) (oi := ?oR2_76_6) (v := ?vR2_76_6) ?eR2_76_6 (by kernel_rfl) (by kernel_rfl) (by kernel_rfl) ?qR2_76_6 (Or.inl ⟨?wR2_76_6, ?yR2_76_6⟩) (by assumption) ?rR2_76_6
          case eR2_76_6 => simp only [List.getElem?_toArray, List.getElem?_cons_succ, List.getElem?_cons_zero]; rfl
          case wR2_76_6 => rfl
          case qR2_76_6 => exact fun _ _ _ h => h
          case yR2_76_6 => (intro w hSw; (try dsimp only at hSw); go_simp; try with_reducible rfl)
          try simp only [Act.put, List.setIfInBounds_toArray, List.set_cons_zero, List.set_cons_succ]
          have hOld := hHeld
          clear hHeld
          refine wpAnyH_ready (rs := [8]) (by kernel_rfl) (by simp) ?_
          refine AllReadyH.cons (o := ?oR2_77_8) ?eR2_77_8 (fun K hK => ?_) AllReadyH.nil
          case eR2_77_8 => simp only [List.getElem?_toArray, List.getElem?_cons_succ, List.getElem?_cons_zero]; rfl
          go_simp
          skip
          try go_wp2_with fail
          refine hK.out _ _ (HKP.out _ (below_set4 HB3.out (by first | exact Nat.le_refl _ | exact HB1.out.size | exact HB2.out.size))) (fun hHeld => ?_)
          clear hK hOld
          try simp only [Act.put, List.setIfInBounds_toArray, List.set_cons_zero, List.set_cons_succ]
          refine wpAnyH_take (i := 9) (oi := ?oR2_78_9) (v := ?vR2_78_9) ?eR2_78_9 (by kernel_rfl) (by kernel_rfl) (by kernel_rfl) ?qR2_78_9 (Or.inl ⟨?wR2_78_9, ?yR2_78_9⟩) (by assumption) ?rR2_78_9
          case eR2_78_9 => simp only [List.getElem?_toArray, List.getElem?_cons_succ, List.getElem?_cons_zero]; rfl
          case wR2_78_9 => rfl
          case qR2_78_9 => exact fun _ _ _ h => h
          case yR2_78_9 => (intro w hSw; (try dsimp only at hSw); go_simp; try with_reducible rfl)
          try simp only [Act.put, List.setIfInBounds_toArray, List.set_cons_zero, List.set_cons_succ]
          refine wpAnyH_done (by kernel_rfl) ?_ _
          go_wp2_with fail
          go_meet
          exact ⟨rfl, below_set4 HB3.out (by first | exact Nat.le_refl _ | exact HB1.out.size | exact HB2.out.size)⟩
      · go_simp
        skip
        try go_wp2_with fail
        refine hK.out _ _ (HKP.out _ (HB1.out.alloc HB1.out.size _)) (fun hHeld => ?_)
        clear hK hOld
        try simp only [Act.put, List.setIfInBounds_toArray, List.set_cons_zero, List.set_cons_succ]
        have hOld := hHeld
        clear hHeld
        refine wpAnyH_ready (rs := [2]) (by kernel_rfl) (by simp) ?_
        refine AllReadyH.cons (o := ?oR2_79_2) ?eR2_79_2 (fun K hK => ?_) AllReadyH.nil
        case eR2_79_2 => simp only [List.getElem?_toArray, List.getElem?_cons_succ, List.getElem?_cons_zero]; rfl
        go_simp
        (go_at_call 30; refine calls_gen fun y1 hy1 => ?_; have HZ : Hid (Blk y1 x1.heap.size zero4 25) := (by rw [hy1]; exact Blk.at_new rfl rfl); have HYy1 : Hid (Below x1.heap.size x1 y1) := (by rw [hy1]; exact (Below.refl _ _).alloc (Nat.le_refl _) _); have HBy1 : Hid (Below w5.heap.size w5 y1) := HB1.out.trans (HYy1.out.mono HB1.out.size); have hk := hk.below HYy1.out; have hv := hv.below HYy1.out; refine Calls.mono (ladd_any 3 fD (.slice ka 1 kc) (.slice va 1 vc) _ hk hv (wf_lfil u64_1) u64_3) ?_; rintro _ x2 ⟨b2, rfl, he, hb2⟩; have HB2 : Hid (Below w5.heap.size w5 x2) := HBy1.out.trans (hb2.mono HBy1.out.size); have HZ := Lib.hid (HZ.out.below hb2 HZ.out.lt))
        try go_wp2_with fail
        refine hK.out _ _ (HKP.out _ HB2.out) (fun hHeld => ?_)
        clear hK hOld
        try simp only [Act.put, List.setIfInBounds_toArray, List.set_cons_zero, List.set_cons_succ]
        have hOld := hHeld
        clear hHeld
        refine wpAnyH_ready (rs := [3]) (by kernel_rfl) (by simp) ?_
        refine AllReadyH.cons (o := ?oR2_80_3) ?eR2_80_3 (fun K hK => ?_) AllReadyH.nil
        case eR2_80_3 => simp only [List.getElem?_toArray, List.getElem?_cons_succ, List.getElem?_cons_zero]; rfl
        go_simp
        (go_at_call 28; refine Calls.mono (apply_to 0 ap_there rfl (.slice xa 5 xac) (.slice none 0 0) (.slice (some ⟨b2, 0, none⟩) 1 1) _ (HR5.out.below HB2.out) ⟨u64_2, u64_0, u64_0⟩ (by decide) he (by decide) (by decide) (adds1 (by decide) (by decide))) ?_; rintro _ x3 ⟨a3, c3, rfl, hr3, hb3⟩; have HB3 : Hid (Below w5.heap.size w5 x3) := HB2.out.trans (hb3.mono HB2.out.size); have HOL := Lib.hid HZ.out.lt; have HZ := Lib.hid (HZ.out.below hb3 HZ.out.lt); obtain ⟨r0, r1, r2, r3, f0, f1, f2, f3⟩ := zero4_cells HZ.out)
        try go_wp2_with fail
        refine hK.out _ _ (HKP.out _ HB3.out) (fun hHeld => ?_)
        clear hK hOld
        try simp only [Act.put, List.setIfInBounds_toArray, List.set_cons_zero, List.set_cons_succ]
        refine wpAnyH_take (i := 4) (oi := ?oR2_81_4) (v := ?vR2_81_4) ?eR2_81_4 (by kernel_rfl) (by kernel_rfl) (by kernel_rfl) ?qR2_81_4 (Or.inl ⟨?wR2_81_4, ?yR2_81_4⟩) (by assumption) ?rR2_81_4
        case eR2_81_4 => simp only [List.getElem?_toArray, List.getElem?_cons_succ, List.getElem?_cons_zero]; rfl
        case wR2_81_4 => rfl
        case qR2_81_4 => exact fun _ _ _ h => h
        case yR2_81_4 => (intro w hSw; (try dsimp only at hSw); go_simp; try with_reducible rfl)
        try simp only [Act.put, List.setIfInBounds_toArray, List.set_cons_zero, List.set_cons_succ]
        refine wpAnyH_take (i := 5) (oi := ?oR2_82_5) (v := ?vR2_82_5) ?eR2_82_5 (by kernel_rfl) (by kernel_rfl) (by kernel_rfl) ?qR2_82_5 (Or.inl ⟨?wR2_82_5, ?yR2_82_5⟩) (by assumption) ?rR2_82_5
        case eR2_82_5 => simp only [List.getElem?_toArray, List.getElem?_cons_succ, List.getElem?_cons_zero]; rfl
        case wR2_82_5 => rfl
        case qR2_82_5 => exact fun _ _ _ h => h
        case yR2_82_5 => (intro w hSw; (try dsimp only at hSw); go_simp; try with_reducible rfl)
        try simp only [Act.put, List.setIfInBounds_toArray, List.set_cons_zero, List.set_cons_succ]
        refine wpAnyH_take (i := 6) (oi := ?oR2_83_6) (v := ?vR2_83_6) ?eR2_83_6 (by kernel_rfl) (by kernel_rfl) (by kernel_rfl) ?qR2_83_6 (Or.inl ⟨?wR2_83_6, ?yR2_83_6⟩) (by assumption) ?rR2_83_6
        case eR2_83_6 => simp only [List.getElem?_toArray, List.getElem?_cons_succ, List.getElem?_cons_zero]; rfl
        case wR2_83_6 => rfl
        case qR2_83_6 => exact fun _ _ _ h => h
        case yR2_83_6 => (intro w hSw; (try dsimp only at hSw); go_simp; try with_reducible rfl)
        try simp only [Act.put, List.setIfInBounds_toArray, List.set_cons_zero, List.set_cons_succ]
        have hOld := hHeld
        clear hHeld
        refine wpAnyH_ready (rs := [8]) (by kernel_rfl) (by simp) ?_
        refine AllReadyH.cons (o := ?oR2_84_8) ?eR2_84_8 (fun K hK => ?_) AllReadyH.nil
        case eR2_84_8 => simp only [List.getElem?_toArray, List.getElem?_cons_succ, List.getElem?_cons_zero]; rfl
        go_simp
        skip
        try go_wp2_with fail
        refine hK.out _ _ (HKP.out _ (below_set4 HB3.out (by first | exact Nat.le_refl _ | exact HB1.out.size | exact HB2.out.size))) (fun hHeld => ?_)
        clear hK hOld
        try simp only [Act.put, List.setIfInBounds_toArray, List.set_cons_zero, List.set_cons_succ]
        refine wpAnyH_take (i := 9) (oi := ?oR2_85_9) (v := ?vR2_85_9) ?eR2_85_9 (by kernel_rfl) (by kernel_rfl) (by kernel_rfl) ?qR2_85_9 (Or.inl ⟨?wR2_85_9, ?yR2_85_9⟩) (by assumption) ?rR2_85_9
        case eR2_85_9 => simp only [List.getElem?_toArray, List.getElem?_cons_succ, List.getElem?_cons_zero]; rfl
        case wR2_85_9 => rfl
        case qR2_85_9 => exact fun _ _ _ h => h
        case yR2_85_9 => (intro w hSw; (try dsimp only at hSw); go_simp; try with_reducible rfl)
        try simp only [Act.put, List.setIfInBounds_toArray, List.set_cons_zero, List.set_cons_succ]
        refine wpAnyH_done (by kernel_rfl) ?_ _
        go_wp2_with fail
        go_meet
        exact ⟨rfl, below_set4 HB3.out (by first | exact Nat.le_refl _ | exact HB1.out.size | exact HB2.out.size)⟩
    · go_simp
      skip
      try go_wp2_with fail
      refine hK.out _ _ (HKP.out _ (HB0.out.alloc HB0.out.size _)) (fun hHeld => ?_)
      clear hK hOld
      try simp only [Act.put, List.setIfInBounds_toArray, List.set_cons_zero, List.set_cons_succ]
      have hOld := hHeld
      clear hHeld
      refine wpAnyH_ready (rs := [1]) (by kernel_rfl) (by simp) ?_
      refine AllReadyH.cons (o := ?oR2_86_1) ?eR2_86_1 (fun K hK => ?_) AllReadyH.nil
      case eR2_86_1 => simp only [List.getElem?_toArray, List.getElem?_cons_succ, List.getElem?_cons_zero]; rfl
      go_simp
      (go_at_call 31; refine calls_gen fun y0 hy0 => ?_; have HZ : Hid (Blk y0 w5.heap.size zero4 25) := (by rw [hy0]; first | exact Blk.drewP (Blk.at_new rfl rfl) | exact Blk.at_new rfl rfl); have HBy0 : Hid (Below w5.heap.size w5 y0) := (by rw [hy0]; first | exact below_drew ((Below.refl _ _).alloc (Nat.le_refl _) _) | exact (below_drew (Below.refl _ _)).alloc (Nat.le_refl _) _); refine Calls.mono (lfile_any 1 [120] [121] _ (by decide) (by decide) u64_1) ?_; rintro _ x1 ⟨vk, vv, rfl, hk, hv, hb1⟩; obtain ⟨ka, kc, rfl⟩ := hk.isSlice; obtain ⟨va, vc, rfl⟩ := hv.isSlice; have hk := hk.any; have hv := hv.any; have HB1 : Hid (Below w5.heap.size w5 x1) := HBy0.out.trans (hb1.mono HBy0.out.size); have HZ := Lib.hid (HZ.out.below hb1 HZ.out.lt))
      try go_wp2_with fail
      refine hK.out _ _ (HKP.out _ HB1.out) (fun hHeld => ?_)
      clear hK hOld
      try simp only [Act.put, List.setIfInBounds_toArray, List.set_cons_zero, List.set_cons_succ]
      have hOld := hHeld
      clear hHeld
      refine wpAnyH_ready (rs := [2]) (by kernel_rfl) (by simp) ?_
      refine AllReadyH.cons (o := ?oR2_87_2) ?eR2_87_2 (fun K hK => ?_) AllReadyH.nil
      case eR2_87_2 => simp only [List.getElem?_toArray, List.getElem?_cons_succ, List.getElem?_cons_zero]; rfl
      go_simp
      (go_at_call 30; refine Calls.mono (ladd_any 3 fD (.slice ka 1 kc) (.slice va 1 vc) _ hk hv (wf_lfil u64_1) u64_3) ?_; rintro _ x2 ⟨b2, rfl, he, hb2⟩; have HB2 : Hid (Below w5.heap.size w5 x2) := HB1.out.trans (hb2.mono HB1.out.size); have HZ := Lib.hid (HZ.out.below hb2 HZ.out.lt))
      try go_wp2_with fail
      refine hK.out _ _ (HKP.out _ HB2.out) (fun hHeld => ?_)
      clear hK hOld
      try simp only [Act.put, List.setIfInBounds_toArray, List.set_cons_zero, List.set_cons_succ]
      have hOld := hHeld
      clear hHeld
      refine wpAnyH_ready (rs := [3]) (by kernel_rfl) (by simp) ?_
      refine AllReadyH.cons (o := ?oR2_88_3) ?eR2_88_3 (fun K hK => ?_) AllReadyH.nil
      case eR2_88_3 => simp only [List.getElem?_toArray, List.getElem?_cons_succ, List.getElem?_cons_zero]; rfl
      go_simp
      (go_at_call 28; refine Calls.mono (apply_to 0 ap_there rfl (.slice xa 5 xac) (.slice none 0 0) (.slice (some ⟨b2, 0, none⟩) 1 1) _ (HR5.out.below HB2.out) ⟨u64_2, u64_0, u64_0⟩ (by decide) he (by decide) (by decide) (adds1 (by decide) (by decide))) ?_; rintro _ x3 ⟨a3, c3, rfl, hr3, hb3⟩; have HB3 : Hid (Below w5.heap.size w5 x3) := HB2.out.trans (hb3.mono HB2.out.size); have HOL := Lib.hid HZ.out.lt; have HZ := Lib.hid (HZ.out.below hb3 HZ.out.lt); obtain ⟨r0, r1, r2, r3, f0, f1, f2, f3⟩ := zero4_cells HZ.out)
      try go_wp2_with fail
      refine hK.out _ _ (HKP.out _ HB3.out) (fun hHeld => ?_)
      clear hK hOld
      try simp only [Act.put, List.setIfInBounds_toArray, List.set_cons_zero, List.set_cons_succ]
      refine wpAnyH_take (i := 4) (oi := ?oR2_89_4) (v := ?vR2_89_4) ?eR2_89_4 (by kernel_rfl) (by kernel_rfl) (by kernel_rfl) ?qR2_89_4 (Or.inl ⟨?wR2_89_4, ?yR2_89_4⟩) (by assumption) ?rR2_89_4
      case eR2_89_4 => simp only [List.getElem?_toArray, List.getElem?_cons_succ, List.getElem?_cons_zero]; rfl
      case wR2_89_4 => rfl
      case qR2_89_4 => exact fun _ _ _ h => h
      case yR2_89_4 => (intro w hSw; (try dsimp only at hSw); go_simp; try with_reducible rfl)
      try simp only [Act.put, List.setIfInBounds_toArray, List.set_cons_zero, List.set_cons_succ]
      refine wpAnyH_take (i := 5) (oi := ?oR2_90_5) (v := ?vR2_90_5) ?eR2_90_5 (by kernel_rfl) (by kernel_rfl) (by kernel_rfl) ?qR2_90_5 (Or.inl ⟨?wR2_90_5, ?yR2_90_5⟩) (by assumption) ?rR2_90_5
      case eR2_90_5 => simp only [List.getElem?_toArray, List.getElem?_cons_succ, List.getElem?_cons_zero]; rfl
      case wR2_90_5 => rfl
      case qR2_90_5 => exact fun _ _ _ h => h
      case yR2_90_5 => (intro w hSw; (try dsimp only at hSw); go_simp; try with_reducible rfl)
      try simp only [Act.put, List.setIfInBounds_toArray, List.set_cons_zero, List.set_cons_succ]
      refine wpAnyH_take (i := 6) (oi := ?oR2_91_6) (v := ?vR2_91_6) ?eR2_91_6 (by kernel_rfl) (by kernel_rfl) (by kernel_rfl) ?qR2_91_6 (Or.inl ⟨?wR2_91_6, ?yR2_91_6⟩) (by assumption) ?rR2_91_6
      case eR2_91_6 => simp only [List.getElem?_toArray, List.getElem?_cons_succ, List.getElem?_cons_zero]; rfl
      case wR2_91_6 => rfl
      case qR2_91_6 => exact fun _ _ _ h => h
      case yR2_91_6 => (intro w hSw; (try dsimp only at hSw); go_simp; try with_reducible rfl)
      try simp only [Act.put, List.setIfInBounds_toArray, List.set_cons_zero, List.set_cons_succ]
      have hOld := hHeld
      clear hHeld
      refine wpAnyH_ready (rs := [8]) (by kernel_rfl) (by simp) ?_
      refine AllReadyH.cons (o := ?oR2_92_8) ?eR2_92_8 (fun K hK => ?_) AllReadyH.nil
      case eR2_92_8 => simp only [List.getElem?_toArray, List.getElem?_cons_succ, List.getElem?_cons_zero]; rfl
      go_simp
      skip
      try go_wp2_with fail
      refine hK.out _ _ (HKP.out _ (below_set4 HB3.out (by first | exact Nat.le_refl _ | exact HB1.out.size | exact HB2.out.size))) (fun hHeld => ?_)
      clear hK hOld
      try simp only [Act.put, List.setIfInBounds_toArray, List.set_cons_zero, List.set_cons_succ]
      refine wpAnyH_take (i := 9) (oi := ?oR2_93_9) (v := ?vR2_93_9) ?eR2_93_9 (by kernel_rfl) (by kernel_rfl) (by kernel_rfl) ?qR2_93_9 (Or.inl ⟨?wR2_93_9, ?yR2_93_9⟩) (by assumption) ?rR2_93_9
      case eR2_93_9 => simp only [List.getElem?_toArray, List.getElem?_cons_succ, List.getElem?_cons_zero]; rfl
      case wR2_93_9 => rfl
      case qR2_93_9 => exact fun _ _ _ h => h
      case yR2_93_9 => (intro w hSw; (try dsimp only at hSw); go_simp; try with_reducible rfl)
      try simp only [Act.put, List.setIfInBounds_toArray, List.set_cons_zero, List.set_cons_succ]
      refine wpAnyH_done (by kernel_rfl) ?_ _
      go_wp2_with fail
      go_meet
      exact ⟨rfl, below_set4 HB3.out (by first | exact Nat.le_refl _ | exact HB1.out.size | exact HB2.out.size)⟩
  case rest =>
    have HB6 : Hid (Below w.heap.size w wc) := HB5.out.trans (hcut.out.2.mono HB5.out.size)
    have HX6 := Lib.hid (HX5.out.below hcut.out.2 HX5.out.lt)
    have HR6 := Lib.hid (HR5.out.below hcut.out.2)
    obtain rfl := hcut.out.1
    clear hcut HX5 HR5 HB5
    obtain ⟨w6, hw6⟩ : ∃ w6, wc = w6 := ⟨_, rfl⟩
    rw [hw6] at HB6 HX6 HR6 ⊢
    clear hw6
    go_wp2_with fail
    refine Calls.mono (vlives_any w6) ?_
    rintro _ w7 ⟨rfl, hb⟩
    have HB7 : Hid (Below w.heap.size w w7) := HB6.out.trans (hb.mono HB6.out.size)
    have HX7 := Lib.hid (HX6.out.below hb HX6.out.lt)
    have HR7 := Lib.hid (HR6.out.below hb)
    clear hb HB6 HX6 HR6
    go_wp2_with fail
    refine Calls.mono (first_any w7) ?_
    rintro _ w8 ⟨b8, rfl, hr8, hb⟩
    have HB8 : Hid (Below w.heap.size w w8) := HB7.out.trans (hb.mono HB7.out.size)
    have HX8 := Lib.hid (HX7.out.below hb HX7.out.lt)
    have HR8 := Lib.hid (HR7.out.below hb)
    have HF8 := Lib.hid hr8
    clear hb hr8 HB7 HX7 HR7
    unfold verCells firstV
    go_wp2_with fail
    refine Calls.mono (check_any _ firstV (.slice (some ⟨b8, 0, none⟩) 5 5) w8 HF8.out ⟨u64_1, u64_0, u64_0⟩ (by decide)) ?_
    rintro _ w9 ⟨rfl, hb⟩
    have HB9 : Hid (Below w.heap.size w w9) := HB8.out.trans (hb.mono HB8.out.size)
    have HX9 := Lib.hid (HX8.out.below hb HX8.out.lt)
    have HR9 := Lib.hid (HR8.out.below hb)
    clear hb HB8 HX8 HR8 HF8
    rw [chk_first]
    go_wp2_with fail
    refine Calls.mono (check_any Any zeroV (.slice none 0 0) w9 (Rw.nil _ _ _) ⟨u64_0, u64_0, u64_0⟩ (by decide)) ?_
    rintro _ wa ⟨rfl, hb⟩
    have HBa : Hid (Below w.heap.size w wa) := HB9.out.trans (hb.mono HB9.out.size)
    have HXa := Lib.hid (HX9.out.below hb HX9.out.lt)
    have HRa := Lib.hid (HR9.out.below hb)
    clear hb HB9 HX9 HR9
    rw [chk_zero]
    have x0 : wa.cell? ⟨vb, 0, none⟩ = some (.slice xa 5 xac) := HXa.out.cell rfl
    have x1 : wa.cell? ⟨vb, 1, none⟩ = some (.int .u64 2) := HXa.out.cell rfl
    have x2 : wa.cell? ⟨vb, 2, none⟩ = some (.int .u64 0) := HXa.out.cell rfl
    have x3 : wa.cell? ⟨vb, 3, none⟩ = some (.int .u64 0) := HXa.out.cell rfl
    go_wp2_with fail
    clear x0 x1 x2 x3
    refine Calls.mono (vbytes_any _ vOne (.slice xa 5 xac) 1 wa HRa.out ⟨u64_2, u64_0, u64_0⟩ (by decide) ⟨by decide, by decide⟩) ?_
    rintro _ wb ⟨rfl, hb⟩
    have HBb : Hid (Below w.heap.size w wb) := HBa.out.trans (hb.mono HBa.out.size)
    have HXb := Lib.hid (HXa.out.below hb HXa.out.lt)
    have HRb := Lib.hid (HRa.out.below hb)
    clear hb HBa HXa HRa
    rw [bytes_one]
    have x0 : wb.cell? ⟨vb, 0, none⟩ = some (.slice xa 5 xac) := HXb.out.cell rfl
    have x1 : wb.cell? ⟨vb, 1, none⟩ = some (.int .u64 2) := HXb.out.cell rfl
    have x2 : wb.cell? ⟨vb, 2, none⟩ = some (.int .u64 0) := HXb.out.cell rfl
    have x3 : wb.cell? ⟨vb, 3, none⟩ = some (.int .u64 0) := HXb.out.cell rfl
    go_wp2_with fail
    clear x0 x1 x2 x3
    refine calls_gen fun wd hwd => ?_
    have HBbd : Hid (Below wb.heap.size wb wd) := by rw [hwd]; exact (Below.refl _ _).alloc (Nat.le_refl _) _
    have HL : Hid (Bytes Any wd (.slice (some ⟨wb.heap.size, 0, none⟩) 1 1) [97]) := by rw [hwd]; exact (Bytes.const wb [97] 1 _ _ _ rfl rfl (by decide)).any
    have HBd : Hid (Below w.heap.size w wd) := HBb.out.trans (HBbd.out.mono HBb.out.size)
    have HXd := Lib.hid (HXb.out.below HBbd.out HXb.out.lt)
    have HRd := Lib.hid (HRb.out.below HBbd.out)
    clear hwd HBbd HBb HXb HRb
    generalize wb.heap.size = kb at *
    refine Calls.mono (deepest_any _ _ _ vOne (.slice xa 5 xac) 0 [97] [] _ _ wd HRd.out ⟨u64_2, u64_0, u64_0⟩ (by decide) ⟨by decide, by decide⟩ HL.out (Bytes.nil Any _)) ?_
    rintro _ we ⟨rfl, hb⟩
    have HBe : Hid (Below w.heap.size w we) := HBd.out.trans (hb.mono HBd.out.size)
    have HXe := Lib.hid (HXd.out.below hb HXd.out.lt)
    have HRe := Lib.hid (HRd.out.below hb)
    clear hb HBd HXd HRd HL
    rw [deep_zero]
    have x0 : we.cell? ⟨vb, 0, none⟩ = some (.slice xa 5 xac) := HXe.out.cell rfl
    have x1 : we.cell? ⟨vb, 1, none⟩ = some (.int .u64 2) := HXe.out.cell rfl
    have x2 : we.cell? ⟨vb, 2, none⟩ = some (.int .u64 0) := HXe.out.cell rfl
    have x3 : we.cell? ⟨vb, 3, none⟩ = some (.int .u64 0) := HXe.out.cell rfl
    go_wp2_with fail
    clear x0 x1 x2 x3 hcc hcc2
    refine calls_gen fun wf hwf => ?_
    have HBef : Hid (Below we.heap.size we wf) := by rw [hwf]; exact (Below.refl _ _).alloc (Nat.le_refl _) _
    have HL : Hid (Bytes Any wf (.slice (some ⟨we.heap.size, 0, none⟩) 1 1) [97]) := by rw [hwf]; exact (Bytes.const we [97] 1 _ _ _ rfl rfl (by decide)).any
    have HBf : Hid (Below w.heap.size w wf) := HBe.out.trans (HBef.out.mono HBe.out.size)
    have HRf := Lib.hid (HRe.out.below HBef.out)
    clear hwf HBef HBe HXe HRe
    refine Calls.mono (deepest_any _ _ _ vOne (.slice xa 5 xac) 1 [97] [] _ _ wf HRf.out ⟨u64_2, u64_0, u64_0⟩ (by decide) ⟨by decide, by decide⟩ HL.out (Bytes.nil Any _)) ?_
    rintro _ wg ⟨rfl, hb⟩
    have HBg : Hid (Below w.heap.size w wg) := HBf.out.trans (hb.mono HBf.out.size)
    clear hb HBf HRf HL
    rw [deep_one]
    go_wp2_with fail
    go_ret
    exact ⟨rfl, HBg.out⟩
end Go.Proofs.Ytkcohhldmhdcfaa
