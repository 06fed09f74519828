/- The law VersionBack: its walk. -/
import Derived.Test.YtkcohhldmhdcfaaVzVhQ
namespace Go.Proofs.Ytkcohhldmhdcfaa
open Go.RowKit

set_option maxRecDepth 100000 in
set_option maxHeartbeats 8000000 in
theorem versionBack_any (F : Nat → Prop) (lvv : Value) (L : List Edi) (w : World) (h : Rw ediK F w lvv L) (hn : ∀ e ∈ L, e.near) :
    Calls Try.prog 8 #[lvv] w fun x w' => x = .returned (.bool true) ∧ Below w.heap.size w w' := by
  have HL : Hid (Rw ediK (· < w.heap.size) w lvv L) := h.mono fun k hk _ => hk
  obtain ⟨la, lc, rfl⟩ := h.isSlice
  have HNR := Lib.hid hn
  clear h hn
  obtain ⟨n, hn⟩ : ∃ n, L.length = n := ⟨_, rfl⟩
  have HN := Lib.hid hn
  rw [hn] at HL ⊢
  clear hn
  go_enter Try.func8, Try.ntmps8
  go_wp2_with fail
  refine Calls.mono (vlives_any w) ?_
  rintro _ w1 ⟨rfl, hb⟩
  have HW1 := Lib.hid hb
  clear hb
  by_cases hn20 : 20 < n
  · have t1 : (20 : Int) < (n : Int) := by omega
    go_wp2_with fail
    go_ret
    exact ⟨rfl, HW1.out⟩
  have t1 : ¬ (20 : Int) < (n : Int) := by omega
  go_wp2_with fail
  refine Calls.mono (first_any w1) ?_
  rintro _ w2 ⟨b2, rfl, hr, hb⟩
  have HW2 : Hid (Below w.heap.size w w2) := HW1.out.trans (hb.mono HW1.out.size)
  have HR2 : Hid (Rw (rowK filK) (· < w2.heap.size) w2 (.slice (some ⟨b2, 0, none⟩) 5 5) firstV.levels) := hr.mono fun k hk _ => hk
  clear hb hr HW1
  unfold verCells
  go_upto_region 6 with fail
  refine wp_gen fun w3 hw3 => ?_
  have hb3 : Below w2.heap.size w2 w3 := by rw [hw3]; exact (Below.refl _ _).alloc (Nat.le_refl _) _
  have HV3 : Hid (VbAt w w2.heap.size firstV (.slice (some ⟨b2, 0, none⟩) 5 5) 0 w3) :=
    ⟨by rw [hw3]; exact Blk.at_new rfl rfl, (HR2.out.below hb3).mono fun k _ hk => Nat.ne_of_lt hk, firstV_wf, chk_first, by rw [firstV_tot]; exact Nat.zero_le _, HW2.out.trans (hb3.mono HW2.out.size), HW2.out.size⟩
  clear hw3 hb3 HR2 HW2
  generalize w2.heap.size = vb at *
  go_wp2_with fail
  go_loopw [4] (fun iv wr => ∃ (i : Nat) (v : Ver) (a : Option Addr) (c : Nat), iv = .int .i64 (i : Int) ∧ i ≤ n ∧ Hid (VbAt w vb v (.slice a 5 c) i wr)) (fun iv _ => n - (intOf iv).toNat)
  case atStart => exact ⟨0, _, _, _, rfl, by omega, HV3.out⟩
  case round =>
    obtain ⟨i, v, a, c, rfl, hi, HV⟩ := hrel
    clear HV3
    by_cases hin : i < n
    · have u1 : (i : Int) < (n : Int) := by omega
      have u2 : 0 ≤ (i : Int) := by omega
      have u3 : n ≤ 20 := by omega
      have hil : i < L.length := by rw [HN.out]; exact hin
      obtain ⟨ba, oa, cap, ea, hF, hba, hc⟩ := edis_at HL.out (by rw [HN.out]; omega)
      rw [HN.out] at ea
      injection ea with e1 e2 e3
      subst e1 e3
      clear e2
      obtain ⟨dv, av, hed, c0, c1, c2, c3, c4⟩ := hc i hil
      have hnr := HNR.out (eat L i) (by rw [← eat_eq hil]; exact List.getElem_mem hil)
      obtain ⟨e, he⟩ : ∃ e, eat L i = e := ⟨_, rfl⟩
      rw [he] at hed c2 c3 c4 hnr
      have HED : Hid (EdiAt (· < w.heap.size) w e dv av) := hed
      have HEN := Lib.hid hnr
      have HCE : Hid (∀ W, Below w.heap.size w W → W.cell? ⟨ba, oa + i * 5, none⟩ = some dv ∧ W.cell? ⟨ba, oa + i * 5 + 1, none⟩ = some av ∧ W.cell? ⟨ba, oa + i * 5 + 2, none⟩ = some (.int .u64 e.next) ∧ W.cell? ⟨ba, oa + i * 5 + 3, none⟩ = some (.int .u64 e.seq) ∧ W.cell? ⟨ba, oa + i * 5 + 4, none⟩ = some (.int .u64 e.log)) := fun W hW =>
        ⟨(hW.cell (p := ⟨ba, oa + i * 5, none⟩) hba).trans c0, (hW.cell (p := ⟨ba, oa + i * 5 + 1, none⟩) hba).trans c1, (hW.cell (p := ⟨ba, oa + i * 5 + 2, none⟩) hba).trans c2, (hW.cell (p := ⟨ba, oa + i * 5 + 3, none⟩) hba).trans c3, (hW.cell (p := ⟨ba, oa + i * 5 + 4, none⟩) hba).trans c4⟩
      obtain ⟨da, dc, rfl⟩ := hed.drops.isSlice
      obtain ⟨aa, ac, rfl⟩ := hed.adds.isSlice
      clear hc c0 c1 c2 c3 c4 hed hnr he hF
      obtain ⟨c0, c1, c2, c3, c4⟩ := HCE.out wr HV.out.bel
      go_wp2_with fail
      clear c0 c1 c2 c3 c4
      refine Calls.mono (smallEdit_any _ e _ _ wr (HED.out.below HV.out.bel) (edi_nd HEN.out) (edi_na HEN.out) (edi_nk HEN.out)) ?_
      rintro _ w4 ⟨sm, rfl, hsm, hb⟩
      have HV4 := Lib.hid (HV.out.below hb)
      clear hb HV
      cases sm with
      | false =>
        go_wp2_with fail
        go_ret
        exact ⟨rfl, HV4.out.bel⟩
      | true =>
      obtain ⟨s1, s2, s3⟩ := hsm rfl
      have HS : Hid (e.drops.length ≤ 100 ∧ e.adds.length ≤ 100 ∧ ∀ a ∈ e.adds, a.2.least.length ≤ 10000 ∧ a.2.most.length ≤ 10000) := ⟨s1, s2, s3⟩
      clear hsm s1 s2 s3
      have HAP := Lib.hid (fun W (hb : Below w4.heap.size w4 W) => apply_any _ _ v e _ _ _ W (HV4.out.below hb).rows HV4.out.wf (by rw [HV4.out.five, cnt_tot]; have := HV4.out.tot; omega) (HED.out.below (HV4.out.bel.trans (hb.mono HV4.out.bel.size))) (Nat.le_trans HS.out.1 (by decide)) (Nat.le_trans HS.out.2.1 (by decide)) (fun a ha => ⟨Nat.le_trans (HS.out.2.2 a ha).1 (by decide), Nat.le_trans (HS.out.2.2 a ha).2 (by decide)⟩))
      obtain ⟨R, hR⟩ : ∃ R, applyW v e = R := ⟨_, rfl⟩
      have HRR := Lib.hid hR
      rw [hR] at HAP
      clear hR
      obtain ⟨A, x⟩ := R
      go_upto_region 11 with fail
      go_cut [5, 6] (fun pv ev wx => Hid (ApAt w vb v (.slice a 5 c) i (A, x) pv ev wx))
      case first =>
        have HKP : Hid (∀ W, Below w4.heap.size w4 W → (W.cell? ⟨vb, 0, none⟩ = some (.slice a 5 c) ∧ W.cell? ⟨vb, 1, none⟩ = some (.int .u64 v.next) ∧ W.cell? ⟨vb, 2, none⟩ = some (.int .u64 v.seq) ∧ W.cell? ⟨vb, 3, none⟩ = some (.int .u64 v.log)) ∧ (W.cell? ⟨ba, oa + i * 5, none⟩ = some (.slice da e.drops.length dc) ∧ W.cell? ⟨ba, oa + i * 5 + 1, none⟩ = some (.slice aa e.adds.length ac) ∧ W.cell? ⟨ba, oa + i * 5 + 2, none⟩ = some (.int .u64 e.next) ∧ W.cell? ⟨ba, oa + i * 5 + 3, none⟩ = some (.int .u64 e.seq) ∧ W.cell? ⟨ba, oa + i * 5 + 4, none⟩ = some (.int .u64 e.log))) := fun W hW =>
          ⟨(HV4.out.below hW).cells, HCE.out W (HV4.out.bel.trans (hW.mono HV4.out.bel.size))⟩
        have D0 : Below w4.heap.size w4 w4.drew := below_drew (Below.refl _ _)
        refine wp_region_held_drew (S := fun W => (W.cell? ⟨vb, 0, none⟩ = some (.slice a 5 c) ∧ W.cell? ⟨vb, 1, none⟩ = some (.int .u64 v.next) ∧ W.cell? ⟨vb, 2, none⟩ = some (.int .u64 v.seq) ∧ W.cell? ⟨vb, 3, none⟩ = some (.int .u64 v.log)) ∧ (W.cell? ⟨ba, oa + i * 5, none⟩ = some (.slice da e.drops.length dc) ∧ W.cell? ⟨ba, oa + i * 5 + 1, none⟩ = some (.slice aa e.adds.length ac) ∧ W.cell? ⟨ba, oa + i * 5 + 2, none⟩ = some (.int .u64 e.next) ∧ W.cell? ⟨ba, oa + i * 5 + 3, none⟩ = some (.int .u64 e.seq) ∧ W.cell? ⟨ba, oa + i * 5 + 4, none⟩ = some (.int .u64 e.log))) (by kernel_rfl) (HKP.out _ D0) (fun hHeld => ?_)
        refine wpAnyH_take (i := 0) (oi := ?oR_1_0) (v := ?vR_1_0) ?eR_1_0 (by kernel_rfl) (by kernel_rfl) (by kernel_rfl) ?qR_1_0 (Or.inl ⟨?wR_1_0, ?yR_1_0⟩) (by assumption) ?rR_1_0
        case eR_1_0 => simp only [List.getElem?_toArray, List.getElem?_cons_zero]; rfl
        case wR_1_0 => rfl
        case qR_1_0 => exact fun _ _ _ h => h
        case yR_1_0 => (intro w hSw; (try dsimp only at hSw); go_simp; try with_reducible rfl)
        try simp only [Act.put, List.setIfInBounds_toArray, List.set_cons_zero, List.set_cons_succ]
        refine wpAnyH_take (i := 1) (oi := ?oR_2_1) (v := ?vR_2_1) ?eR_2_1 (by kernel_rfl) (by kernel_rfl) (by kernel_rfl) ?qR_2_1 (Or.inl ⟨?wR_2_1, ?yR_2_1⟩) (by assumption) ?rR_2_1
        case eR_2_1 => simp only [List.getElem?_toArray, List.getElem?_cons_succ, List.getElem?_cons_zero]; rfl
        case wR_2_1 => rfl
        case qR_2_1 => exact fun _ _ _ h => h
        case yR_2_1 => (intro w hSw; (try dsimp only at hSw); go_simp; try with_reducible rfl)
        try simp only [Act.put, List.setIfInBounds_toArray, List.set_cons_zero, List.set_cons_succ]
        refine wpAnyH_take (i := 2) (oi := ?oR_3_2) (v := ?vR_3_2) ?eR_3_2 (by kernel_rfl) (by kernel_rfl) (by kernel_rfl) ?qR_3_2 (Or.inl ⟨?wR_3_2, ?yR_3_2⟩) (by assumption) ?rR_3_2
        case eR_3_2 => simp only [List.getElem?_toArray, List.getElem?_cons_succ, List.getElem?_cons_zero]; rfl
        case wR_3_2 => rfl
        case qR_3_2 => exact fun _ _ _ h => h
        case yR_3_2 => (intro w hSw; (try dsimp only at hSw); go_simp; try with_reducible rfl)
        try simp only [Act.put, List.setIfInBounds_toArray, List.set_cons_zero, List.set_cons_succ]
        refine wpAnyH_take (i := 3) (oi := ?oR_4_3) (v := ?vR_4_3) ?eR_4_3 (by kernel_rfl) (by kernel_rfl) (by kernel_rfl) ?qR_4_3 (Or.inl ⟨?wR_4_3, ?yR_4_3⟩) (by assumption) ?rR_4_3
        case eR_4_3 => simp only [List.getElem?_toArray, List.getElem?_cons_succ, List.getElem?_cons_zero]; rfl
        case wR_4_3 => rfl
        case qR_4_3 => exact fun _ _ _ h => h
        case yR_4_3 => (intro w hSw; (try dsimp only at hSw); go_simp; try with_reducible rfl)
        try simp only [Act.put, List.setIfInBounds_toArray, List.set_cons_zero, List.set_cons_succ]
        refine wpAnyH_take (i := 4) (oi := ?oR_5_4) (v := ?vR_5_4) ?eR_5_4 (by kernel_rfl) (by kernel_rfl) (by kernel_rfl) ?qR_5_4 (Or.inl ⟨?wR_5_4, ?yR_5_4⟩) (by assumption) ?rR_5_4
        case eR_5_4 => simp only [List.getElem?_toArray, List.getElem?_cons_succ, List.getElem?_cons_zero]; rfl
        case wR_5_4 => rfl
        case qR_5_4 => exact fun _ _ _ h => h
        case yR_5_4 => (intro w hSw; (try dsimp only at hSw); go_simp; try with_reducible rfl)
        try simp only [Act.put, List.setIfInBounds_toArray, List.set_cons_zero, List.set_cons_succ]
        have hOld := hHeld
        clear hHeld
        refine wpAnyH_ready (rs := [5, 9]) (by kernel_rfl) (by simp) ?_
        refine AllReadyH.cons (o := ?oR_6) ?eR_6 (fun K hK => ?_) (AllReadyH.cons (o := ?pR_6) ?fR_6 (fun K hK => ?_) AllReadyH.nil)
        case eR_6 => simp only [List.getElem?_toArray, List.getElem?_cons_succ, List.getElem?_cons_zero]; rfl
        case fR_6 => simp only [List.getElem?_toArray, List.getElem?_cons_succ, List.getElem?_cons_zero]; rfl
        · go_simp
          (go_at_call 28; refine Calls.mono (HAP.out _ D0) ?_; rintro _ w5 ⟨lv5, rfl, hr5, hb5⟩; obtain ⟨ra, rc, rfl⟩ := hr5.isSlice; have hb5' : Below w4.heap.size w4.drew w5 := hb5; unfold verCells; generalize A.levels.length = nA at *)
          try go_wp2_with fail
          refine hK.out _ _ (HKP.out _ (D0.trans hb5')) (fun hHeld => ?_)
          clear hK hOld
          try simp only [Act.put, List.setIfInBounds_toArray, List.set_cons_zero, List.set_cons_succ]
          refine wpAnyH_take (i := 6) (oi := ?oR_7_6) (v := ?vR_7_6) ?eR_7_6 (by kernel_rfl) (by kernel_rfl) (by kernel_rfl) ?qR_7_6 (Or.inl ⟨?wR_7_6, ?yR_7_6⟩) (by assumption) ?rR_7_6
          case eR_7_6 => simp only [List.getElem?_toArray, List.getElem?_cons_succ, List.getElem?_cons_zero]; rfl
          case wR_7_6 => rfl
          case qR_7_6 => exact fun _ _ _ h => h
          case yR_7_6 => (intro w hSw; (try dsimp only at hSw); go_simp; try with_reducible rfl)
          try simp only [Act.put, List.setIfInBounds_toArray, List.set_cons_zero, List.set_cons_succ]
          refine wpAnyH_take (i := 7) (oi := ?oR_8_7) (v := ?vR_8_7) ?eR_8_7 (by kernel_rfl) (by kernel_rfl) (by kernel_rfl) ?qR_8_7 (Or.inl ⟨?wR_8_7, ?yR_8_7⟩) (by assumption) ?rR_8_7
          case eR_8_7 => simp only [List.getElem?_toArray, List.getElem?_cons_succ, List.getElem?_cons_zero]; rfl
          case wR_8_7 => rfl
          case qR_8_7 => exact fun _ _ _ h => h
          case yR_8_7 => (intro w hSw; (try dsimp only at hSw); go_simp; try with_reducible rfl)
          try simp only [Act.put, List.setIfInBounds_toArray, List.set_cons_zero, List.set_cons_succ]
          refine wpAnyH_take (i := 8) (oi := ?oR_9_8) (v := ?vR_9_8) ?eR_9_8 (by kernel_rfl) (by kernel_rfl) (by kernel_rfl) ?qR_9_8 (Or.inl ⟨?wR_9_8, ?yR_9_8⟩) (by assumption) ?rR_9_8
          case eR_9_8 => simp only [List.getElem?_toArray, List.getElem?_cons_succ, List.getElem?_cons_zero]; rfl
          case wR_9_8 => rfl
          case qR_9_8 => exact fun _ _ _ h => h
          case yR_9_8 => (intro w hSw; (try dsimp only at hSw); go_simp; try with_reducible rfl)
          try simp only [Act.put, List.setIfInBounds_toArray, List.set_cons_zero, List.set_cons_succ]
          have hOld := hHeld
          clear hHeld
          refine wpAnyH_ready (rs := [9]) (by kernel_rfl) (by simp) ?_
          refine AllReadyH.cons (o := ?oR_10_9) ?eR_10_9 (fun K hK => ?_) AllReadyH.nil
          case eR_10_9 => simp only [List.getElem?_toArray, List.getElem?_cons_succ, List.getElem?_cons_zero]; rfl
          go_simp
          skip
          try go_wp2_with fail
          refine hK.out _ _ (HKP.out _ ((D0.trans hb5').alloc hb5'.size _)) (fun hHeld => ?_)
          clear hK hOld
          try simp only [Act.put, List.setIfInBounds_toArray, List.set_cons_zero, List.set_cons_succ]
          have hOld := hHeld
          clear hHeld
          refine wpAnyH_ready (rs := [10]) (by kernel_rfl) (by simp) ?_
          refine AllReadyH.cons (o := ?oR_11_10) ?eR_11_10 (fun K hK => ?_) AllReadyH.nil
          case eR_11_10 => simp only [List.getElem?_toArray, List.getElem?_cons_succ, List.getElem?_cons_zero]; rfl
          go_simp
          skip
          try go_wp2_with fail
          refine hK.out _ _ (HKP.out _ ((D0.trans hb5').alloc hb5'.size _)) (fun hHeld => ?_)
          clear hK hOld
          try simp only [Act.put, List.setIfInBounds_toArray, List.set_cons_zero, List.set_cons_succ]
          refine wpAnyH_take (i := 11) (oi := ?oR_12_11) (v := ?vR_12_11) ?eR_12_11 (by kernel_rfl) (by kernel_rfl) (by kernel_rfl) ?qR_12_11 (Or.inl ⟨?wR_12_11, ?yR_12_11⟩) (by assumption) ?rR_12_11
          case eR_12_11 => simp only [List.getElem?_toArray, List.getElem?_cons_succ, List.getElem?_cons_zero]; rfl
          case wR_12_11 => rfl
          case qR_12_11 => exact fun _ _ _ h => h
          case yR_12_11 => (intro w hSw; (try dsimp only at hSw); go_simp; try with_reducible rfl)
          try simp only [Act.put, List.setIfInBounds_toArray, List.set_cons_zero, List.set_cons_succ]
          refine wpAnyH_done (by kernel_rfl) ?_ _
          go_wp2_with fail
          go_meet
          exact apAt_1 HV4.out hr5 (D0.trans hb5') (Nat.le_refl _)
        · go_simp
          skip
          try go_wp2_with fail
          refine hK.out _ _ (HKP.out _ (D0.alloc (Nat.le_refl _) _)) (fun hHeld => ?_)
          clear hK hOld
          try simp only [Act.put, List.setIfInBounds_toArray, List.set_cons_zero, List.set_cons_succ]
          have hOld := hHeld
          clear hHeld
          refine wpAnyH_ready (rs := [5]) (by kernel_rfl) (by simp) ?_
          refine AllReadyH.cons (o := ?oR_13_5) ?eR_13_5 (fun K hK => ?_) AllReadyH.nil
          case eR_13_5 => simp only [List.getElem?_toArray, List.getElem?_cons_succ, List.getElem?_cons_zero]; rfl
          go_simp
          (go_at_call 28; refine Calls.mono (HAP.out _ (D0.alloc (Nat.le_refl _) _)) ?_; rintro _ w5 ⟨lv5, rfl, hr5, hb5⟩; obtain ⟨ra, rc, rfl⟩ := hr5.isSlice; unfold verCells; generalize A.levels.length = nA at *; have HB5 : Hid (Below w4.heap.size w4 w5) := below_ad hb5; have HZ5 : Hid (Blk w5 w4.heap.size zero4 25) := blk_ad hb5; obtain ⟨r0, r1, r2, r3, f0, f1, f2, f3⟩ := zero4_cells HZ5.out)
          try go_wp2_with fail
          refine hK.out _ _ (HKP.out _ HB5.out) (fun hHeld => ?_)
          clear hK hOld
          try simp only [Act.put, List.setIfInBounds_toArray, List.set_cons_zero, List.set_cons_succ]
          refine wpAnyH_take (i := 6) (oi := ?oR_14_6) (v := ?vR_14_6) ?eR_14_6 (by kernel_rfl) (by kernel_rfl) (by kernel_rfl) ?qR_14_6 (Or.inl ⟨?wR_14_6, ?yR_14_6⟩) (by assumption) ?rR_14_6
          case eR_14_6 => simp only [List.getElem?_toArray, List.getElem?_cons_succ, List.getElem?_cons_zero]; rfl
          case wR_14_6 => rfl
          case qR_14_6 => exact fun _ _ _ h => h
          case yR_14_6 => (intro w hSw; (try dsimp only at hSw); go_simp; try with_reducible rfl)
          try simp only [Act.put, List.setIfInBounds_toArray, List.set_cons_zero, List.set_cons_succ]
          refine wpAnyH_take (i := 7) (oi := ?oR_15_7) (v := ?vR_15_7) ?eR_15_7 (by kernel_rfl) (by kernel_rfl) (by kernel_rfl) ?qR_15_7 (Or.inl ⟨?wR_15_7, ?yR_15_7⟩) (by assumption) ?rR_15_7
          case eR_15_7 => simp only [List.getElem?_toArray, List.getElem?_cons_succ, List.getElem?_cons_zero]; rfl
          case wR_15_7 => rfl
          case qR_15_7 => exact fun _ _ _ h => h
          case yR_15_7 => (intro w hSw; (try dsimp only at hSw); go_simp; try with_reducible rfl)
          try simp only [Act.put, List.setIfInBounds_toArray, List.set_cons_zero, List.set_cons_succ]
          refine wpAnyH_take (i := 8) (oi := ?oR_16_8) (v := ?vR_16_8) ?eR_16_8 (by kernel_rfl) (by kernel_rfl) (by kernel_rfl) ?qR_16_8 (Or.inl ⟨?wR_16_8, ?yR_16_8⟩) (by assumption) ?rR_16_8
          case eR_16_8 => simp only [List.getElem?_toArray, List.getElem?_cons_succ, List.getElem?_cons_zero]; rfl
          case wR_16_8 => rfl
          case qR_16_8 => exact fun _ _ _ h => h
          case yR_16_8 => (intro w hSw; (try dsimp only at hSw); go_simp; try with_reducible rfl)
          try simp only [Act.put, List.setIfInBounds_toArray, List.set_cons_zero, List.set_cons_succ]
          have hOld := hHeld
          clear hHeld
          refine wpAnyH_ready (rs := [10]) (by kernel_rfl) (by simp) ?_
          refine AllReadyH.cons (o := ?oR_17_10) ?eR_17_10 (fun K hK => ?_) AllReadyH.nil
          case eR_17_10 => simp only [List.getElem?_toArray, List.getElem?_cons_succ, List.getElem?_cons_zero]; rfl
          go_simp
          skip
          try go_wp2_with fail
          refine hK.out _ _ (HKP.out _ (below_set4 HB5.out (Nat.le_refl _))) (fun hHeld => ?_)
          clear hK hOld
          try simp only [Act.put, List.setIfInBounds_toArray, List.set_cons_zero, List.set_cons_succ]
          refine wpAnyH_take (i := 11) (oi := ?oR_18_11) (v := ?vR_18_11) ?eR_18_11 (by kernel_rfl) (by kernel_rfl) (by kernel_rfl) ?qR_18_11 (Or.inl ⟨?wR_18_11, ?yR_18_11⟩) (by assumption) ?rR_18_11
          case eR_18_11 => simp only [List.getElem?_toArray, List.getElem?_cons_succ, List.getElem?_cons_zero]; rfl
          case wR_18_11 => rfl
          case qR_18_11 => exact fun _ _ _ h => h
          case yR_18_11 => (intro w hSw; (try dsimp only at hSw); go_simp; try with_reducible rfl)
          try simp only [Act.put, List.setIfInBounds_toArray, List.set_cons_zero, List.set_cons_succ]
          refine wpAnyH_done (by kernel_rfl) ?_ _
          go_wp2_with fail
          go_meet
          exact apAt_2 HV4.out HZ5.out hr5 HB5.out (by simp) (Nat.le_refl _)
      case rest =>
        obtain ⟨tb, lv', rfl, rfl, hB, hR, hV, -⟩ := hcut.out
        have HTB := Lib.hid hB
        have HTV := Lib.hid hV
        obtain ⟨ra, rc, rfl⟩ := hR.isSlice
        have HTR := Lib.hid hR
        have HX0 : Hid (x = 0 → e.Bound ∧ chkW A = 0 ∧ A.wf ∧ tot A.levels 5 ≤ 100 * (i + 1)) := fun hx => round_zero HRR.out hx ⟨HED.out.next, HED.out.seq, HED.out.log⟩ HS.out.1 HS.out.2.1 (fun q hq => (HED.out.adds.awf q hq).2) HTV.out.tot
        have HLN : Hid ((encE e).length ≤ 1000000000) := edi_len HED.out (by have := HS.out.1; omega) (by have := HS.out.2.1; omega) HS.out.2.2
        clear hB hR hV hcut HV4 HAP HRR
        obtain ⟨nA, hnA⟩ : ∃ k, A.levels.length = k := ⟨_, rfl⟩
        have HNA := Lib.hid hnA
        rw [hnA] at HTB HTR
        clear hnA
        go_upto_if 47 with fail
        go_cut [6] (fun xv wx => xv = .int .i64 x ∧ ∃ (v1 : Ver) (a1 : Option Addr) (c1 : Nat), Hid (VbAt w vb v1 (.slice a1 5 c1) (i + 1) wx))
        case first =>
          by_cases hx : x = 0
          · have h5 : nA = 5 := by rw [← HNA.out]; exact (good_small (HX0.out hx).2.1).1
            subst h5
            obtain ⟨r0, r1, r2, r3⟩ := verq_cells HTB.out
            obtain ⟨s0, s1, s2, s3⟩ := HTV.out.cells
            have f0 := HTV.out.blk.free 0
            have f1 := HTV.out.blk.free 1
            have f2 := HTV.out.blk.free 2
            have f3 := HTV.out.blk.free 3
            go_wp2_with fail
            go_meet
            exact ⟨by rw [hx], A, ra, rc, HTV.out.store HTR.out (HX0.out hx).2.2.1 (HX0.out hx).2.1 (HX0.out hx).2.2.2⟩
          · go_wp2_with fail
            go_meet
            exact ⟨rfl, v, a, c, HTV.out.step⟩
        case rest =>
          obtain ⟨rfl, v1, a1, c1, hv⟩ := hcut
          have HV5 := Lib.hid hv.out
          clear hv HTB HTV HTR HNA
          have hi1 : i + 1 ≤ 20 := by omega
          go_upto_region 14 with fail
          go_cut [6, 55] (fun xv bv wx => xv = .int .i64 x ∧ bv = .bool false ∧ Hid (VbAt w vb v1 (.slice a1 5 c1) (i + 1) wx))
          case first =>
            by_cases hx : x = 0
            · obtain ⟨r0, r1, r2, r3⟩ := HV5.out.cells
              go_wp2_with fail
              refine Calls.mono (check_any _ v1 _ _ HV5.out.rows HV5.out.wf (HV5.out.cnt hi1)) ?_
              rw [HV5.out.chk]
              rintro _ w6 ⟨rfl, hb⟩
              go_wp2_with fail
              go_meet
              exact ⟨by rw [hx], rfl, HV5.out.below hb⟩
            · go_wp2_with fail
              go_meet
              exact ⟨rfl, rfl, HV5.out⟩
          case rest =>
            obtain ⟨rfl, rfl, hv⟩ := hcut
            have HV6 := Lib.hid hv.out
            clear hv HV5
            obtain ⟨c0, c1', c2, c3, c4⟩ := HCE.out wc HV6.out.bel
            go_wp2_with fail
            clear c0 c1' c2 c3 c4
            refine Calls.mono (append_any _ e _ _ _ (HED.out.below HV6.out.bel) (by have := HS.out.1; omega) (by have := HS.out.2.1; omega) HS.out.2.2) ?_
            intro x7 w7 h7
            obtain ⟨pa, pc, all, rfl, hp, hl, hall, hb⟩ := appPost_any h7 HLN.out
            have HV7 := Lib.hid (HV6.out.below hb)
            have HPA := Lib.hid (fun W (hW : Below w7.heap.size w7 W) => parse_any Any (.slice pa all.length pc) all W (hp.below hW) hl)
            have HALL := Lib.hid hall
            clear hp hl hall hb h7 HV6
            obtain ⟨f, hf⟩ : ∃ f, appC e = f := ⟨_, rfl⟩
            obtain ⟨na, hna⟩ : ∃ k, all.length = k := ⟨_, rfl⟩
            rw [hf] at HALL ⊢
            rw [hna] at HPA ⊢
            clear hf hna
            go_wp2_with fail
            refine Calls.mono (HPA.out _ (Below.refl _ _)) ?_
            rintro _ w8 ⟨hb, dv2, av2, rfl, hE⟩
            have HV8 := Lib.hid (HV7.out.below hb)
            obtain ⟨E, hEE⟩ : ∃ r, (parseW all).1 = r := ⟨_, rfl⟩
            obtain ⟨y, hy⟩ : ∃ r : Int, (((parseW all).2 : Nat) : Int) = r := ⟨_, rfl⟩
            have HEE := Lib.hid hEE
            have HY := Lib.hid hy
            rw [hEE] at hE ⊢
            rw [hy]
            clear hb hEE hy HV7 HPA
            obtain ⟨da2, dc2, rfl⟩ := hE.drops.isSlice
            obtain ⟨aa2, ac2, rfl⟩ := hE.adds.isSlice
            obtain ⟨nD2, hnD⟩ : ∃ k, E.drops.length = k := ⟨_, rfl⟩
            obtain ⟨nA2, hnA⟩ : ∃ k, E.adds.length = k := ⟨_, rfl⟩
            rw [hnD, hnA] at hE ⊢
            have HE8 : Hid (EdiAt Any w8 E (.slice da2 nD2 dc2) (.slice aa2 nA2 ac2)) := ⟨hE.drops.any, hE.adds.any, hE.next, hE.seq, hE.log⟩
            clear hE hnD hnA
            unfold ediCells
            go_upto_region 18 with fail
            refine wp_gen fun w9 hw9 => ?_
            have hb9 : Below w8.heap.size w8 w9 := by rw [hw9]; exact (Below.refl _ _).alloc (Nat.le_refl _) _
            have HK9 : Hid (Blk w9 w8.heap.size (ediCells E (.slice da2 nD2 dc2) (.slice aa2 nA2 ac2)).toArray 57) := by rw [hw9]; exact Blk.at_new rfl rfl
            have HV9 := Lib.hid (HV8.out.below hb9)
            have HE9 := Lib.hid (HE8.out.below hb9)
            clear hw9 hb9 HV8 HE8
            generalize w8.heap.size = kb at *
            go_cut [87] (fun bv wx => bv = .bool false ∧ Hid (VbAt w vb v1 (.slice a1 5 c1) (i + 1) wx))
            case first =>
              have D0 : Below w9.heap.size w9 w9.drew := below_drew (Below.refl _ _)
              by_cases hf0 : f = 0
              · by_cases hx0 : x = 0
                · have hPe : parseW all = (e, 0) := by rw [HALL.out hf0]; exact parse_back (HX0.out hx0).1
                  have hE2 : e = E := by rw [← HEE.out, hPe]
                  have hy0 : y = 0 := by rw [← HY.out, hPe]; rfl
                  clear HALL HX0 HEE HY hPe
                  subst hE2 hf0 hx0 hy0
                  have HKP : Hid (∀ W, Below w9.heap.size w9 W → (W.cell? ⟨kb, 0, none⟩ = some (.slice da2 nD2 dc2) ∧ W.cell? ⟨kb, 1, none⟩ = some (.slice aa2 nA2 ac2) ∧ W.cell? ⟨kb, 2, none⟩ = some (.int .u64 e.next) ∧ W.cell? ⟨kb, 3, none⟩ = some (.int .u64 e.seq) ∧ W.cell? ⟨kb, 4, none⟩ = some (.int .u64 e.log)) ∧ (W.cell? ⟨ba, oa + i * 5, none⟩ = some (.slice da e.drops.length dc) ∧ W.cell? ⟨ba, oa + i * 5 + 1, none⟩ = some (.slice aa e.adds.length ac) ∧ W.cell? ⟨ba, oa + i * 5 + 2, none⟩ = some (.int .u64 e.next) ∧ W.cell? ⟨ba, oa + i * 5 + 3, none⟩ = some (.int .u64 e.seq) ∧ W.cell? ⟨ba, oa + i * 5 + 4, none⟩ = some (.int .u64 e.log))) := fun W hW =>
                    ⟨ediq_cells (HK9.out.below hW HK9.out.lt), HCE.out W (HV9.out.bel.trans (hW.mono HV9.out.bel.size))⟩
                  refine wp_region_held_drew (S := fun W => (W.cell? ⟨kb, 0, none⟩ = some (.slice da2 nD2 dc2) ∧ W.cell? ⟨kb, 1, none⟩ = some (.slice aa2 nA2 ac2) ∧ W.cell? ⟨kb, 2, none⟩ = some (.int .u64 e.next) ∧ W.cell? ⟨kb, 3, none⟩ = some (.int .u64 e.seq) ∧ W.cell? ⟨kb, 4, none⟩ = some (.int .u64 e.log)) ∧ (W.cell? ⟨ba, oa + i * 5, none⟩ = some (.slice da e.drops.length dc) ∧ W.cell? ⟨ba, oa + i * 5 + 1, none⟩ = some (.slice aa e.adds.length ac) ∧ W.cell? ⟨ba, oa + i * 5 + 2, none⟩ = some (.int .u64 e.next) ∧ W.cell? ⟨ba, oa + i * 5 + 3, none⟩ = some (.int .u64 e.seq) ∧ W.cell? ⟨ba, oa + i * 5 + 4, none⟩ = some (.int .u64 e.log))) (by kernel_rfl) (HKP.out _ D0) (fun hHeld => ?_)
                  refine wpAnyH_take (i := 0) (oi := ?oQ_19_0) (v := ?vQ_19_0) ?eQ_19_0 (by kernel_rfl) (by kernel_rfl) (by kernel_rfl) ?qQ_19_0 (Or.inl ⟨?wQ_19_0, ?yQ_19_0⟩) (by assumption) ?rQ_19_0
                  case eQ_19_0 => simp only [List.getElem?_toArray, List.getElem?_cons_zero]; rfl
                  case wQ_19_0 => rfl
                  case qQ_19_0 => exact fun _ _ _ h => h
                  case yQ_19_0 => (intro w hSw; (try dsimp only at hSw); go_simp; try with_reducible rfl)
                  try simp only [Act.put, List.setIfInBounds_toArray, List.set_cons_zero, List.set_cons_succ]
                  refine wpAnyH_take (i := 1) (oi := ?oQ_20_1) (v := ?vQ_20_1) ?eQ_20_1 (by kernel_rfl) (by kernel_rfl) (by kernel_rfl) ?qQ_20_1 (Or.inl ⟨?wQ_20_1, ?yQ_20_1⟩) (by assumption) ?rQ_20_1
                  case eQ_20_1 => simp only [List.getElem?_toArray, List.getElem?_cons_succ, List.getElem?_cons_zero]; rfl
                  case wQ_20_1 => rfl
                  case qQ_20_1 => exact fun _ _ _ h => h
                  case yQ_20_1 => (intro w hSw; (try dsimp only at hSw); go_simp; try with_reducible rfl)
                  try simp only [Act.put, List.setIfInBounds_toArray, List.set_cons_zero, List.set_cons_succ]
                  refine wpAnyH_take (i := 2) (oi := ?oQ_21_2) (v := ?vQ_21_2) ?eQ_21_2 (by kernel_rfl) (by kernel_rfl) (by kernel_rfl) ?qQ_21_2 (Or.inl ⟨?wQ_21_2, ?yQ_21_2⟩) (by assumption) ?rQ_21_2
                  case eQ_21_2 => simp only [List.getElem?_toArray, List.getElem?_cons_succ, List.getElem?_cons_zero]; rfl
                  case wQ_21_2 => rfl
                  case qQ_21_2 => exact fun _ _ _ h => h
                  case yQ_21_2 => (intro w hSw; (try dsimp only at hSw); go_simp; try with_reducible rfl)
                  try simp only [Act.put, List.setIfInBounds_toArray, List.set_cons_zero, List.set_cons_succ]
                  refine wpAnyH_take (i := 3) (oi := ?oQ_22_3) (v := ?vQ_22_3) ?eQ_22_3 (by kernel_rfl) (by kernel_rfl) (by kernel_rfl) ?qQ_22_3 (Or.inl ⟨?wQ_22_3, ?yQ_22_3⟩) (by assumption) ?rQ_22_3
                  case eQ_22_3 => simp only [List.getElem?_toArray, List.getElem?_cons_succ, List.getElem?_cons_zero]; rfl
                  case wQ_22_3 => rfl
                  case qQ_22_3 => exact fun _ _ _ h => h
                  case yQ_22_3 => (intro w hSw; (try dsimp only at hSw); go_simp; try with_reducible rfl)
                  try simp only [Act.put, List.setIfInBounds_toArray, List.set_cons_zero, List.set_cons_succ]
                  refine wpAnyH_take (i := 4) (oi := ?oQ_23_4) (v := ?vQ_23_4) ?eQ_23_4 (by kernel_rfl) (by kernel_rfl) (by kernel_rfl) ?qQ_23_4 (Or.inl ⟨?wQ_23_4, ?yQ_23_4⟩) (by assumption) ?rQ_23_4
                  case eQ_23_4 => simp only [List.getElem?_toArray, List.getElem?_cons_succ, List.getElem?_cons_zero]; rfl
                  case wQ_23_4 => rfl
                  case qQ_23_4 => exact fun _ _ _ h => h
                  case yQ_23_4 => (intro w hSw; (try dsimp only at hSw); go_simp; try with_reducible rfl)
                  try simp only [Act.put, List.setIfInBounds_toArray, List.set_cons_zero, List.set_cons_succ]
                  refine wpAnyH_take (i := 5) (oi := ?oQ_24_5) (v := ?vQ_24_5) ?eQ_24_5 (by kernel_rfl) (by kernel_rfl) (by kernel_rfl) ?qQ_24_5 (Or.inl ⟨?wQ_24_5, ?yQ_24_5⟩) (by assumption) ?rQ_24_5
                  case eQ_24_5 => simp only [List.getElem?_toArray, List.getElem?_cons_succ, List.getElem?_cons_zero]; rfl
                  case wQ_24_5 => rfl
                  case qQ_24_5 => exact fun _ _ _ h => h
                  case yQ_24_5 => (intro w hSw; (try dsimp only at hSw); go_simp; try with_reducible rfl)
                  try simp only [Act.put, List.setIfInBounds_toArray, List.set_cons_zero, List.set_cons_succ]
                  refine wpAnyH_take (i := 6) (oi := ?oQ_25_6) (v := ?vQ_25_6) ?eQ_25_6 (by kernel_rfl) (by kernel_rfl) (by kernel_rfl) ?qQ_25_6 (Or.inl ⟨?wQ_25_6, ?yQ_25_6⟩) (by assumption) ?rQ_25_6
                  case eQ_25_6 => simp only [List.getElem?_toArray, List.getElem?_cons_succ, List.getElem?_cons_zero]; rfl
                  case wQ_25_6 => rfl
                  case qQ_25_6 => exact fun _ _ _ h => h
                  case yQ_25_6 => (intro w hSw; (try dsimp only at hSw); go_simp; try with_reducible rfl)
                  try simp only [Act.put, List.setIfInBounds_toArray, List.set_cons_zero, List.set_cons_succ]
                  refine wpAnyH_take (i := 7) (oi := ?oQ_26_7) (v := ?vQ_26_7) ?eQ_26_7 (by kernel_rfl) (by kernel_rfl) (by kernel_rfl) ?qQ_26_7 (Or.inl ⟨?wQ_26_7, ?yQ_26_7⟩) (by assumption) ?rQ_26_7
                  case eQ_26_7 => simp only [List.getElem?_toArray, List.getElem?_cons_succ, List.getElem?_cons_zero]; rfl
                  case wQ_26_7 => rfl
                  case qQ_26_7 => exact fun _ _ _ h => h
                  case yQ_26_7 => (intro w hSw; (try dsimp only at hSw); go_simp; try with_reducible rfl)
                  try simp only [Act.put, List.setIfInBounds_toArray, List.set_cons_zero, List.set_cons_succ]
                  refine wpAnyH_take (i := 8) (oi := ?oQ_27_8) (v := ?vQ_27_8) ?eQ_27_8 (by kernel_rfl) (by kernel_rfl) (by kernel_rfl) ?qQ_27_8 (Or.inl ⟨?wQ_27_8, ?yQ_27_8⟩) (by assumption) ?rQ_27_8
                  case eQ_27_8 => simp only [List.getElem?_toArray, List.getElem?_cons_succ, List.getElem?_cons_zero]; rfl
                  case wQ_27_8 => rfl
                  case qQ_27_8 => exact fun _ _ _ h => h
                  case yQ_27_8 => (intro w hSw; (try dsimp only at hSw); go_simp; try with_reducible rfl)
                  try simp only [Act.put, List.setIfInBounds_toArray, List.set_cons_zero, List.set_cons_succ]
                  refine wpAnyH_take (i := 9) (oi := ?oQ_28_9) (v := ?vQ_28_9) ?eQ_28_9 (by kernel_rfl) (by kernel_rfl) (by kernel_rfl) ?qQ_28_9 (Or.inl ⟨?wQ_28_9, ?yQ_28_9⟩) (by assumption) ?rQ_28_9
                  case eQ_28_9 => simp only [List.getElem?_toArray, List.getElem?_cons_succ, List.getElem?_cons_zero]; rfl
                  case wQ_28_9 => rfl
                  case qQ_28_9 => exact fun _ _ _ h => h
                  case yQ_28_9 => (intro w hSw; (try dsimp only at hSw); go_simp; try with_reducible rfl)
                  try simp only [Act.put, List.setIfInBounds_toArray, List.set_cons_zero, List.set_cons_succ]
                  refine wpAnyH_take (i := 10) (oi := ?oQ_29_10) (v := ?vQ_29_10) ?eQ_29_10 (by kernel_rfl) (by kernel_rfl) (by kernel_rfl) ?qQ_29_10 (Or.inl ⟨?wQ_29_10, ?yQ_29_10⟩) (by assumption) ?rQ_29_10
                  case eQ_29_10 => simp only [List.getElem?_toArray, List.getElem?_cons_succ, List.getElem?_cons_zero]; rfl
                  case wQ_29_10 => rfl
                  case qQ_29_10 => exact fun _ _ _ h => h
                  case yQ_29_10 => (intro w hSw; (try dsimp only at hSw); go_simp; try with_reducible rfl)
                  try simp only [Act.put, List.setIfInBounds_toArray, List.set_cons_zero, List.set_cons_succ]
                  refine wpAnyH_take (i := 11) (oi := ?oQ_30_11) (v := ?vQ_30_11) ?eQ_30_11 (by kernel_rfl) (by kernel_rfl) (by kernel_rfl) ?qQ_30_11 (Or.inl ⟨?wQ_30_11, ?yQ_30_11⟩) (by assumption) ?rQ_30_11
                  case eQ_30_11 => simp only [List.getElem?_toArray, List.getElem?_cons_succ, List.getElem?_cons_zero]; rfl
                  case wQ_30_11 => rfl
                  case qQ_30_11 => exact fun _ _ _ h => h
                  case yQ_30_11 => (intro w hSw; (try dsimp only at hSw); go_simp; try with_reducible rfl)
                  try simp only [Act.put, List.setIfInBounds_toArray, List.set_cons_zero, List.set_cons_succ]
                  refine wpAnyH_take (i := 12) (oi := ?oQ_31_12) (v := ?vQ_31_12) ?eQ_31_12 (by kernel_rfl) (by kernel_rfl) (by kernel_rfl) ?qQ_31_12 (Or.inl ⟨?wQ_31_12, ?yQ_31_12⟩) (by assumption) ?rQ_31_12
                  case eQ_31_12 => simp only [List.getElem?_toArray, List.getElem?_cons_succ, List.getElem?_cons_zero]; rfl
                  case wQ_31_12 => rfl
                  case qQ_31_12 => exact fun _ _ _ h => h
                  case yQ_31_12 => (intro w hSw; (try dsimp only at hSw); go_simp; try with_reducible rfl)
                  try simp only [Act.put, List.setIfInBounds_toArray, List.set_cons_zero, List.set_cons_succ]
                  refine wpAnyH_take (i := 13) (oi := ?oQ_32_13) (v := ?vQ_32_13) ?eQ_32_13 (by kernel_rfl) (by kernel_rfl) (by kernel_rfl) ?qQ_32_13 (Or.inl ⟨?wQ_32_13, ?yQ_32_13⟩) (by assumption) ?rQ_32_13
                  case eQ_32_13 => simp only [List.getElem?_toArray, List.getElem?_cons_succ, List.getElem?_cons_zero]; rfl
                  case wQ_32_13 => rfl
                  case qQ_32_13 => exact fun _ _ _ h => h
                  case yQ_32_13 => (intro w hSw; (try dsimp only at hSw); go_simp; try with_reducible rfl)
                  try simp only [Act.put, List.setIfInBounds_toArray, List.set_cons_zero, List.set_cons_succ]
                  refine wpAnyH_take (i := 14) (oi := ?oQ_33_14) (v := ?vQ_33_14) ?eQ_33_14 (by kernel_rfl) (by kernel_rfl) (by kernel_rfl) ?qQ_33_14 (Or.inl ⟨?wQ_33_14, ?yQ_33_14⟩) (by assumption) ?rQ_33_14
                  case eQ_33_14 => simp only [List.getElem?_toArray, List.getElem?_cons_succ, List.getElem?_cons_zero]; rfl
                  case wQ_33_14 => rfl
                  case qQ_33_14 => exact fun _ _ _ h => h
                  case yQ_33_14 => (intro w hSw; (try dsimp only at hSw); go_simp; try with_reducible rfl)
                  try simp only [Act.put, List.setIfInBounds_toArray, List.set_cons_zero, List.set_cons_succ]
                  have hOld := hHeld
                  clear hHeld
                  refine wpAnyH_ready (rs := [15]) (by kernel_rfl) (by simp) ?_
                  refine AllReadyH.cons (o := ?oQ_34_15) ?eQ_34_15 (fun K hK => ?_) AllReadyH.nil
                  case eQ_34_15 => simp only [List.getElem?_toArray, List.getElem?_cons_succ, List.getElem?_cons_zero]; rfl
                  go_simp
                  (go_at_call 42; refine Calls.mono (kedit_same _ _ e _ _ _ _ _ (HE9.out.below D0) (HED.out.below (HV9.out.bel.trans (D0.mono HV9.out.bel.size))) (by have := HS.out.1; omega) (by have := HS.out.2.1; omega)) ?_; rintro _ q2 ⟨rfl, hb2⟩; have D1 : Below w9.heap.size w9 q2 := D0.trans (hb2.mono D0.size); clear hb2)
                  try go_wp2_with fail
                  refine hK.out _ _ (HKP.out _ D1) (fun hHeld => ?_)
                  clear hK hOld
                  try simp only [Act.put, List.setIfInBounds_toArray, List.set_cons_zero, List.set_cons_succ]
                  refine wpAnyH_take (i := 16) (oi := ?oQ_35_16) (v := ?vQ_35_16) ?eQ_35_16 (by kernel_rfl) (by kernel_rfl) (by kernel_rfl) ?qQ_35_16 (Or.inl ⟨?wQ_35_16, ?yQ_35_16⟩) (by assumption) ?rQ_35_16
                  case eQ_35_16 => simp only [List.getElem?_toArray, List.getElem?_cons_succ, List.getElem?_cons_zero]; rfl
                  case wQ_35_16 => rfl
                  case qQ_35_16 => exact fun _ _ _ h => h
                  case yQ_35_16 => (intro w hSw; (try dsimp only at hSw); go_simp; try with_reducible rfl)
                  try simp only [Act.put, List.setIfInBounds_toArray, List.set_cons_zero, List.set_cons_succ]
                  refine wpAnyH_take (i := 17) (oi := ?oQ_36_17) (v := ?vQ_36_17) ?eQ_36_17 (by kernel_rfl) (by kernel_rfl) (by kernel_rfl) ?qQ_36_17 (Or.inl ⟨?wQ_36_17, ?yQ_36_17⟩) (by assumption) ?rQ_36_17
                  case eQ_36_17 => simp only [List.getElem?_toArray, List.getElem?_cons_succ, List.getElem?_cons_zero]; rfl
                  case wQ_36_17 => rfl
                  case qQ_36_17 => exact fun _ _ _ h => h
                  case yQ_36_17 => (intro w hSw; (try dsimp only at hSw); go_simp; try with_reducible rfl)
                  try simp only [Act.put, List.setIfInBounds_toArray, List.set_cons_zero, List.set_cons_succ]
                  refine wpAnyH_take (i := 18) (oi := ?oQ_37_18) (v := ?vQ_37_18) ?eQ_37_18 (by kernel_rfl) (by kernel_rfl) (by kernel_rfl) ?qQ_37_18 (Or.inl ⟨?wQ_37_18, ?yQ_37_18⟩) (by assumption) ?rQ_37_18
                  case eQ_37_18 => simp only [List.getElem?_toArray, List.getElem?_cons_succ, List.getElem?_cons_zero]; rfl
                  case wQ_37_18 => rfl
                  case qQ_37_18 => exact fun _ _ _ h => h
                  case yQ_37_18 => (intro w hSw; (try dsimp only at hSw); go_simp; try with_reducible rfl)
                  try simp only [Act.put, List.setIfInBounds_toArray, List.set_cons_zero, List.set_cons_succ]
                  refine wpAnyH_done (by kernel_rfl) ?_ _
                  go_wp2_with fail
                  go_meet
                  exact ⟨rfl, HV9.out.below D1⟩
                · have hxd : (x == 0) = false := by simpa using hx0
                  have hfd : (f == 0) = true := by simpa using hf0
                  clear hf0 hx0
                  refine wp_region_held_drew (S := fun _ => True) (by kernel_rfl) (trivial) (fun hHeld => ?_)
                  refine wpAnyH_take (i := 0) (oi := ?oP_38_0) (v := ?vP_38_0) ?eP_38_0 (by kernel_rfl) (by kernel_rfl) (by kernel_rfl) ?qP_38_0 (Or.inl ⟨?wP_38_0, ?yP_38_0⟩) (by assumption) ?rP_38_0
                  case eP_38_0 => simp only [List.getElem?_toArray, List.getElem?_cons_zero]; rfl
                  case wP_38_0 => rfl
                  case qP_38_0 => exact fun _ _ _ h => h
                  case yP_38_0 => (intro w hSw; (try dsimp only at hSw); go_simp; try with_reducible rfl)
                  try simp only [Act.put, List.setIfInBounds_toArray, List.set_cons_zero, List.set_cons_succ]
                  refine wpAnyH_take (i := 1) (oi := ?oP_39_1) (v := ?vP_39_1) ?eP_39_1 (by kernel_rfl) (by kernel_rfl) (by kernel_rfl) ?qP_39_1 (Or.inl ⟨?wP_39_1, ?yP_39_1⟩) (by assumption) ?rP_39_1
                  case eP_39_1 => simp only [List.getElem?_toArray, List.getElem?_cons_succ, List.getElem?_cons_zero]; rfl
                  case wP_39_1 => rfl
                  case qP_39_1 => exact fun _ _ _ h => h
                  case yP_39_1 => (intro w hSw; (try dsimp only at hSw); go_simp; try with_reducible rfl)
                  try simp only [Act.put, List.setIfInBounds_toArray, List.set_cons_zero, List.set_cons_succ]
                  refine wpAnyH_take (i := 2) (oi := ?oP_40_2) (v := ?vP_40_2) ?eP_40_2 (by kernel_rfl) (by kernel_rfl) (by kernel_rfl) ?qP_40_2 (Or.inl ⟨?wP_40_2, ?yP_40_2⟩) (by assumption) ?rP_40_2
                  case eP_40_2 => simp only [List.getElem?_toArray, List.getElem?_cons_succ, List.getElem?_cons_zero]; rfl
                  case wP_40_2 => rfl
                  case qP_40_2 => exact fun _ _ _ h => h
                  case yP_40_2 => (intro w hSw; (try dsimp only at hSw); go_simp; try with_reducible rfl)
                  try simp only [Act.put, List.setIfInBounds_toArray, List.set_cons_zero, List.set_cons_succ]
                  refine wpAnyH_take (i := 3) (oi := ?oP_41_3) (v := ?vP_41_3) ?eP_41_3 (by kernel_rfl) (by kernel_rfl) (by kernel_rfl) ?qP_41_3 (Or.inl ⟨?wP_41_3, ?yP_41_3⟩) (by assumption) ?rP_41_3
                  case eP_41_3 => simp only [List.getElem?_toArray, List.getElem?_cons_succ, List.getElem?_cons_zero]; rfl
                  case wP_41_3 => rfl
                  case qP_41_3 => exact fun _ _ _ h => h
                  case yP_41_3 => (intro w hSw; (try dsimp only at hSw); go_simp; try with_reducible rfl)
                  try simp only [Act.put, List.setIfInBounds_toArray, List.set_cons_zero, List.set_cons_succ]
                  refine wpAnyH_take (i := 4) (oi := ?oP_42_4) (v := ?vP_42_4) ?eP_42_4 (by kernel_rfl) (by kernel_rfl) (by kernel_rfl) ?qP_42_4 (Or.inl ⟨?wP_42_4, ?yP_42_4⟩) (by assumption) ?rP_42_4
                  case eP_42_4 => simp only [List.getElem?_toArray, List.getElem?_cons_succ, List.getElem?_cons_zero]; rfl
                  case wP_42_4 => rfl
                  case qP_42_4 => exact fun _ _ _ h => h
                  case yP_42_4 => (intro w hSw; (try dsimp only at hSw); go_simp; try with_reducible rfl)
                  try simp only [Act.put, List.setIfInBounds_toArray, List.set_cons_zero, List.set_cons_succ]
                  refine wpAnyH_take (i := 5) (oi := ?oP_43_5) (v := ?vP_43_5) ?eP_43_5 (by kernel_rfl) (by kernel_rfl) (by kernel_rfl) ?qP_43_5 (Or.inl ⟨?wP_43_5, ?yP_43_5⟩) (by assumption) ?rP_43_5
                  case eP_43_5 => simp only [List.getElem?_toArray, List.getElem?_cons_succ, List.getElem?_cons_zero]; rfl
                  case wP_43_5 => rfl
                  case qP_43_5 => exact fun _ _ _ h => h
                  case yP_43_5 => (intro w hSw; (try dsimp only at hSw); go_simp; try with_reducible rfl)
                  try simp only [Act.put, List.setIfInBounds_toArray, List.set_cons_zero, List.set_cons_succ]
                  refine wpAnyH_take (i := 6) (oi := ?oP_44_6) (v := ?vP_44_6) ?eP_44_6 (by kernel_rfl) (by kernel_rfl) (by kernel_rfl) ?qP_44_6 (Or.inl ⟨?wP_44_6, ?yP_44_6⟩) (by assumption) ?rP_44_6
                  case eP_44_6 => simp only [List.getElem?_toArray, List.getElem?_cons_succ, List.getElem?_cons_zero]; rfl
                  case wP_44_6 => rfl
                  case qP_44_6 => exact fun _ _ _ h => h
                  case yP_44_6 => (intro w hSw; (try dsimp only at hSw); go_simp; try with_reducible rfl)
                  try simp only [Act.put, List.setIfInBounds_toArray, List.set_cons_zero, List.set_cons_succ]
                  refine wpAnyH_take (i := 7) (oi := ?oP_45_7) (v := undef) ?eP_45_7 (by kernel_rfl) (by kernel_rfl) (by kernel_rfl) ?qP_45_7 (Or.inr ⟨?wP_45_7, rfl⟩) (by assumption) ?rP_45_7
                  case eP_45_7 => simp only [List.getElem?_toArray, List.getElem?_cons_succ, List.getElem?_cons_zero]; rfl
                  case wP_45_7 => rfl
                  case qP_45_7 => exact fun _ _ _ h => h
                  try simp only [Act.put, List.setIfInBounds_toArray, List.set_cons_zero, List.set_cons_succ]
                  refine wpAnyH_take (i := 8) (oi := ?oP_46_8) (v := undef) ?eP_46_8 (by kernel_rfl) (by kernel_rfl) (by kernel_rfl) ?qP_46_8 (Or.inr ⟨?wP_46_8, rfl⟩) (by assumption) ?rP_46_8
                  case eP_46_8 => simp only [List.getElem?_toArray, List.getElem?_cons_succ, List.getElem?_cons_zero]; rfl
                  case wP_46_8 => rfl
                  case qP_46_8 => exact fun _ _ _ h => h
                  try simp only [Act.put, List.setIfInBounds_toArray, List.set_cons_zero, List.set_cons_succ]
                  refine wpAnyH_take (i := 9) (oi := ?oP_47_9) (v := undef) ?eP_47_9 (by kernel_rfl) (by kernel_rfl) (by kernel_rfl) ?qP_47_9 (Or.inr ⟨?wP_47_9, rfl⟩) (by assumption) ?rP_47_9
                  case eP_47_9 => simp only [List.getElem?_toArray, List.getElem?_cons_succ, List.getElem?_cons_zero]; rfl
                  case wP_47_9 => rfl
                  case qP_47_9 => exact fun _ _ _ h => h
                  try simp only [Act.put, List.setIfInBounds_toArray, List.set_cons_zero, List.set_cons_succ]
                  refine wpAnyH_take (i := 10) (oi := ?oP_48_10) (v := undef) ?eP_48_10 (by kernel_rfl) (by kernel_rfl) (by kernel_rfl) ?qP_48_10 (Or.inr ⟨?wP_48_10, rfl⟩) (by assumption) ?rP_48_10
                  case eP_48_10 => simp only [List.getElem?_toArray, List.getElem?_cons_succ, List.getElem?_cons_zero]; rfl
                  case wP_48_10 => rfl
                  case qP_48_10 => exact fun _ _ _ h => h
                  try simp only [Act.put, List.setIfInBounds_toArray, List.set_cons_zero, List.set_cons_succ]
                  refine wpAnyH_take (i := 11) (oi := ?oP_49_11) (v := undef) ?eP_49_11 (by kernel_rfl) (by kernel_rfl) (by kernel_rfl) ?qP_49_11 (Or.inr ⟨?wP_49_11, rfl⟩) (by assumption) ?rP_49_11
                  case eP_49_11 => simp only [List.getElem?_toArray, List.getElem?_cons_succ, List.getElem?_cons_zero]; rfl
                  case wP_49_11 => rfl
                  case qP_49_11 => exact fun _ _ _ h => h
                  try simp only [Act.put, List.setIfInBounds_toArray, List.set_cons_zero, List.set_cons_succ]
                  refine wpAnyH_take (i := 12) (oi := ?oP_50_12) (v := undef) ?eP_50_12 (by kernel_rfl) (by kernel_rfl) (by kernel_rfl) ?qP_50_12 (Or.inr ⟨?wP_50_12, rfl⟩) (by assumption) ?rP_50_12
                  case eP_50_12 => simp only [List.getElem?_toArray, List.getElem?_cons_succ, List.getElem?_cons_zero]; rfl
                  case wP_50_12 => rfl
                  case qP_50_12 => exact fun _ _ _ h => h
                  try simp only [Act.put, List.setIfInBounds_toArray, List.set_cons_zero, List.set_cons_succ]
                  refine wpAnyH_take (i := 13) (oi := ?oP_51_13) (v := undef) ?eP_51_13 (by kernel_rfl) (by kernel_rfl) (by kernel_rfl) ?qP_51_13 (Or.inr ⟨?wP_51_13, rfl⟩) (by assumption) ?rP_51_13
                  case eP_51_13 => simp only [List.getElem?_toArray, List.getElem?_cons_succ, List.getElem?_cons_zero]; rfl
                  case wP_51_13 => rfl
                  case qP_51_13 => exact fun _ _ _ h => h
                  try simp only [Act.put, List.setIfInBounds_toArray, List.set_cons_zero, List.set_cons_succ]
                  refine wpAnyH_take (i := 14) (oi := ?oP_52_14) (v := undef) ?eP_52_14 (by kernel_rfl) (by kernel_rfl) (by kernel_rfl) ?qP_52_14 (Or.inr ⟨?wP_52_14, rfl⟩) (by assumption) ?rP_52_14
                  case eP_52_14 => simp only [List.getElem?_toArray, List.getElem?_cons_succ, List.getElem?_cons_zero]; rfl
                  case wP_52_14 => rfl
                  case qP_52_14 => exact fun _ _ _ h => h
                  try simp only [Act.put, List.setIfInBounds_toArray, List.set_cons_zero, List.set_cons_succ]
                  refine wpAnyH_take (i := 15) (oi := ?oP_53_15) (v := undef) ?eP_53_15 (by kernel_rfl) (by kernel_rfl) (by kernel_rfl) ?qP_53_15 (Or.inr ⟨?wP_53_15, rfl⟩) (by assumption) ?rP_53_15
                  case eP_53_15 => simp only [List.getElem?_toArray, List.getElem?_cons_succ, List.getElem?_cons_zero]; rfl
                  case wP_53_15 => rfl
                  case qP_53_15 => exact fun _ _ _ h => h
                  try simp only [Act.put, List.setIfInBounds_toArray, List.set_cons_zero, List.set_cons_succ]
                  refine wpAnyH_take (i := 16) (oi := ?oP_54_16) (v := undef) ?eP_54_16 (by kernel_rfl) (by kernel_rfl) (by kernel_rfl) ?qP_54_16 (Or.inr ⟨?wP_54_16, rfl⟩) (by assumption) ?rP_54_16
                  case eP_54_16 => simp only [List.getElem?_toArray, List.getElem?_cons_succ, List.getElem?_cons_zero]; rfl
                  case wP_54_16 => rfl
                  case qP_54_16 => exact fun _ _ _ h => h
                  try simp only [Act.put, List.setIfInBounds_toArray, List.set_cons_zero, List.set_cons_succ]
                  refine wpAnyH_take (i := 17) (oi := ?oP_55_17) (v := undef) ?eP_55_17 (by kernel_rfl) (by kernel_rfl) (by kernel_rfl) ?qP_55_17 (Or.inr ⟨?wP_55_17, rfl⟩) (by assumption) ?rP_55_17
                  case eP_55_17 => simp only [List.getElem?_toArray, List.getElem?_cons_succ, List.getElem?_cons_zero]; rfl
                  case wP_55_17 => rfl
                  case qP_55_17 => exact fun _ _ _ h => h
                  try simp only [Act.put, List.setIfInBounds_toArray, List.set_cons_zero, List.set_cons_succ]
                  refine wpAnyH_take (i := 18) (oi := ?oP_56_18) (v := ?vP_56_18) ?eP_56_18 (by kernel_rfl) (by kernel_rfl) (by kernel_rfl) ?qP_56_18 (Or.inl ⟨?wP_56_18, ?yP_56_18⟩) (by assumption) ?rP_56_18
                  case eP_56_18 => simp only [List.getElem?_toArray, List.getElem?_cons_succ, List.getElem?_cons_zero]; rfl
                  case wP_56_18 => rfl
                  case qP_56_18 => exact fun _ _ _ h => h
                  case yP_56_18 => (intro w hSw; (try dsimp only at hSw); go_simp; try with_reducible rfl)
                  try simp only [Act.put, List.setIfInBounds_toArray, List.set_cons_zero, List.set_cons_succ]
                  refine wpAnyH_done (by kernel_rfl) ?_ _
                  go_wp2_with fail
                  go_meet
                  exact ⟨rfl, HV9.out.below D0⟩
              · have hfd : (f == 0) = false := by simpa using hf0
                clear hf0
                refine wp_region_held_drew (S := fun _ => True) (by kernel_rfl) (trivial) (fun hHeld => ?_)
                refine wpAnyH_take (i := 0) (oi := ?oO_57_0) (v := ?vO_57_0) ?eO_57_0 (by kernel_rfl) (by kernel_rfl) (by kernel_rfl) ?qO_57_0 (Or.inl ⟨?wO_57_0, ?yO_57_0⟩) (by assumption) ?rO_57_0
                case eO_57_0 => simp only [List.getElem?_toArray, List.getElem?_cons_zero]; rfl
                case wO_57_0 => rfl
                case qO_57_0 => exact fun _ _ _ h => h
                case yO_57_0 => (intro w hSw; (try dsimp only at hSw); go_simp; try with_reducible rfl)
                try simp only [Act.put, List.setIfInBounds_toArray, List.set_cons_zero, List.set_cons_succ]
                refine wpAnyH_take (i := 1) (oi := ?oO_58_1) (v := ?vO_58_1) ?eO_58_1 (by kernel_rfl) (by kernel_rfl) (by kernel_rfl) ?qO_58_1 (Or.inl ⟨?wO_58_1, ?yO_58_1⟩) (by assumption) ?rO_58_1
                case eO_58_1 => simp only [List.getElem?_toArray, List.getElem?_cons_succ, List.getElem?_cons_zero]; rfl
                case wO_58_1 => rfl
                case qO_58_1 => exact fun _ _ _ h => h
                case yO_58_1 => (intro w hSw; (try dsimp only at hSw); go_simp; try with_reducible rfl)
                try simp only [Act.put, List.setIfInBounds_toArray, List.set_cons_zero, List.set_cons_succ]
                refine wpAnyH_take (i := 2) (oi := ?oO_59_2) (v := ?vO_59_2) ?eO_59_2 (by kernel_rfl) (by kernel_rfl) (by kernel_rfl) ?qO_59_2 (Or.inl ⟨?wO_59_2, ?yO_59_2⟩) (by assumption) ?rO_59_2
                case eO_59_2 => simp only [List.getElem?_toArray, List.getElem?_cons_succ, List.getElem?_cons_zero]; rfl
                case wO_59_2 => rfl
                case qO_59_2 => exact fun _ _ _ h => h
                case yO_59_2 => (intro w hSw; (try dsimp only at hSw); go_simp; try with_reducible rfl)
                try simp only [Act.put, List.setIfInBounds_toArray, List.set_cons_zero, List.set_cons_succ]
                refine wpAnyH_take (i := 3) (oi := ?oO_60_3) (v := undef) ?eO_60_3 (by kernel_rfl) (by kernel_rfl) (by kernel_rfl) ?qO_60_3 (Or.inr ⟨?wO_60_3, rfl⟩) (by assumption) ?rO_60_3
                case eO_60_3 => simp only [List.getElem?_toArray, List.getElem?_cons_succ, List.getElem?_cons_zero]; rfl
                case wO_60_3 => rfl
                case qO_60_3 => exact fun _ _ _ h => h
                try simp only [Act.put, List.setIfInBounds_toArray, List.set_cons_zero, List.set_cons_succ]
                refine wpAnyH_take (i := 4) (oi := ?oO_61_4) (v := undef) ?eO_61_4 (by kernel_rfl) (by kernel_rfl) (by kernel_rfl) ?qO_61_4 (Or.inr ⟨?wO_61_4, rfl⟩) (by assumption) ?rO_61_4
                case eO_61_4 => simp only [List.getElem?_toArray, List.getElem?_cons_succ, List.getElem?_cons_zero]; rfl
                case wO_61_4 => rfl
                case qO_61_4 => exact fun _ _ _ h => h
                try simp only [Act.put, List.setIfInBounds_toArray, List.set_cons_zero, List.set_cons_succ]
                refine wpAnyH_take (i := 5) (oi := ?oO_62_5) (v := ?vO_62_5) ?eO_62_5 (by kernel_rfl) (by kernel_rfl) (by kernel_rfl) ?qO_62_5 (Or.inl ⟨?wO_62_5, ?yO_62_5⟩) (by assumption) ?rO_62_5
                case eO_62_5 => simp only [List.getElem?_toArray, List.getElem?_cons_succ, List.getElem?_cons_zero]; rfl
                case wO_62_5 => rfl
                case qO_62_5 => exact fun _ _ _ h => h
                case yO_62_5 => (intro w hSw; (try dsimp only at hSw); go_simp; try with_reducible rfl)
                try simp only [Act.put, List.setIfInBounds_toArray, List.set_cons_zero, List.set_cons_succ]
                refine wpAnyH_take (i := 6) (oi := ?oO_63_6) (v := ?vO_63_6) ?eO_63_6 (by kernel_rfl) (by kernel_rfl) (by kernel_rfl) ?qO_63_6 (Or.inl ⟨?wO_63_6, ?yO_63_6⟩) (by assumption) ?rO_63_6
                case eO_63_6 => simp only [List.getElem?_toArray, List.getElem?_cons_succ, List.getElem?_cons_zero]; rfl
                case wO_63_6 => rfl
                case qO_63_6 => exact fun _ _ _ h => h
                case yO_63_6 => (intro w hSw; (try dsimp only at hSw); go_simp; try with_reducible rfl)
                try simp only [Act.put, List.setIfInBounds_toArray, List.set_cons_zero, List.set_cons_succ]
                refine wpAnyH_take (i := 7) (oi := ?oO_64_7) (v := undef) ?eO_64_7 (by kernel_rfl) (by kernel_rfl) (by kernel_rfl) ?qO_64_7 (Or.inr ⟨?wO_64_7, rfl⟩) (by assumption) ?rO_64_7
                case eO_64_7 => simp only [List.getElem?_toArray, List.getElem?_cons_succ, List.getElem?_cons_zero]; rfl
                case wO_64_7 => rfl
                case qO_64_7 => exact fun _ _ _ h => h
                try simp only [Act.put, List.setIfInBounds_toArray, List.set_cons_zero, List.set_cons_succ]
                refine wpAnyH_take (i := 8) (oi := ?oO_65_8) (v := undef) ?eO_65_8 (by kernel_rfl) (by kernel_rfl) (by kernel_rfl) ?qO_65_8 (Or.inr ⟨?wO_65_8, rfl⟩) (by assumption) ?rO_65_8
                case eO_65_8 => simp only [List.getElem?_toArray, List.getElem?_cons_succ, List.getElem?_cons_zero]; rfl
                case wO_65_8 => rfl
                case qO_65_8 => exact fun _ _ _ h => h
                try simp only [Act.put, List.setIfInBounds_toArray, List.set_cons_zero, List.set_cons_succ]
                refine wpAnyH_take (i := 9) (oi := ?oO_66_9) (v := undef) ?eO_66_9 (by kernel_rfl) (by kernel_rfl) (by kernel_rfl) ?qO_66_9 (Or.inr ⟨?wO_66_9, rfl⟩) (by assumption) ?rO_66_9
                case eO_66_9 => simp only [List.getElem?_toArray, List.getElem?_cons_succ, List.getElem?_cons_zero]; rfl
                case wO_66_9 => rfl
                case qO_66_9 => exact fun _ _ _ h => h
                try simp only [Act.put, List.setIfInBounds_toArray, List.set_cons_zero, List.set_cons_succ]
                refine wpAnyH_take (i := 10) (oi := ?oO_67_10) (v := undef) ?eO_67_10 (by kernel_rfl) (by kernel_rfl) (by kernel_rfl) ?qO_67_10 (Or.inr ⟨?wO_67_10, rfl⟩) (by assumption) ?rO_67_10
                case eO_67_10 => simp only [List.getElem?_toArray, List.getElem?_cons_succ, List.getElem?_cons_zero]; rfl
                case wO_67_10 => rfl
                case qO_67_10 => exact fun _ _ _ h => h
                try simp only [Act.put, List.setIfInBounds_toArray, List.set_cons_zero, List.set_cons_succ]
                refine wpAnyH_take (i := 11) (oi := ?oO_68_11) (v := undef) ?eO_68_11 (by kernel_rfl) (by kernel_rfl) (by kernel_rfl) ?qO_68_11 (Or.inr ⟨?wO_68_11, rfl⟩) (by assumption) ?rO_68_11
                case eO_68_11 => simp only [List.getElem?_toArray, List.getElem?_cons_succ, List.getElem?_cons_zero]; rfl
                case wO_68_11 => rfl
                case qO_68_11 => exact fun _ _ _ h => h
                try simp only [Act.put, List.setIfInBounds_toArray, List.set_cons_zero, List.set_cons_succ]
                refine wpAnyH_take (i := 12) (oi := ?oO_69_12) (v := undef) ?eO_69_12 (by kernel_rfl) (by kernel_rfl) (by kernel_rfl) ?qO_69_12 (Or.inr ⟨?wO_69_12, rfl⟩) (by assumption) ?rO_69_12
                case eO_69_12 => simp only [List.getElem?_toArray, List.getElem?_cons_succ, List.getElem?_cons_zero]; rfl
                case wO_69_12 => rfl
                case qO_69_12 => exact fun _ _ _ h => h
                try simp only [Act.put, List.setIfInBounds_toArray, List.set_cons_zero, List.set_cons_succ]
                refine wpAnyH_take (i := 13) (oi := ?oO_70_13) (v := undef) ?eO_70_13 (by kernel_rfl) (by kernel_rfl) (by kernel_rfl) ?qO_70_13 (Or.inr ⟨?wO_70_13, rfl⟩) (by assumption) ?rO_70_13
                case eO_70_13 => simp only [List.getElem?_toArray, List.getElem?_cons_succ, List.getElem?_cons_zero]; rfl
                case wO_70_13 => rfl
                case qO_70_13 => exact fun _ _ _ h => h
                try simp only [Act.put, List.setIfInBounds_toArray, List.set_cons_zero, List.set_cons_succ]
                refine wpAnyH_take (i := 14) (oi := ?oO_71_14) (v := undef) ?eO_71_14 (by kernel_rfl) (by kernel_rfl) (by kernel_rfl) ?qO_71_14 (Or.inr ⟨?wO_71_14, rfl⟩) (by assumption) ?rO_71_14
                case eO_71_14 => simp only [List.getElem?_toArray, List.getElem?_cons_succ, List.getElem?_cons_zero]; rfl
                case wO_71_14 => rfl
                case qO_71_14 => exact fun _ _ _ h => h
                try simp only [Act.put, List.setIfInBounds_toArray, List.set_cons_zero, List.set_cons_succ]
                refine wpAnyH_take (i := 15) (oi := ?oO_72_15) (v := undef) ?eO_72_15 (by kernel_rfl) (by kernel_rfl) (by kernel_rfl) ?qO_72_15 (Or.inr ⟨?wO_72_15, rfl⟩) (by assumption) ?rO_72_15
                case eO_72_15 => simp only [List.getElem?_toArray, List.getElem?_cons_succ, List.getElem?_cons_zero]; rfl
                case wO_72_15 => rfl
                case qO_72_15 => exact fun _ _ _ h => h
                try simp only [Act.put, List.setIfInBounds_toArray, List.set_cons_zero, List.set_cons_succ]
                refine wpAnyH_take (i := 16) (oi := ?oO_73_16) (v := undef) ?eO_73_16 (by kernel_rfl) (by kernel_rfl) (by kernel_rfl) ?qO_73_16 (Or.inr ⟨?wO_73_16, rfl⟩) (by assumption) ?rO_73_16
                case eO_73_16 => simp only [List.getElem?_toArray, List.getElem?_cons_succ, List.getElem?_cons_zero]; rfl
                case wO_73_16 => rfl
                case qO_73_16 => exact fun _ _ _ h => h
                try simp only [Act.put, List.setIfInBounds_toArray, List.set_cons_zero, List.set_cons_succ]
                refine wpAnyH_take (i := 17) (oi := ?oO_74_17) (v := undef) ?eO_74_17 (by kernel_rfl) (by kernel_rfl) (by kernel_rfl) ?qO_74_17 (Or.inr ⟨?wO_74_17, rfl⟩) (by assumption) ?rO_74_17
                case eO_74_17 => simp only [List.getElem?_toArray, List.getElem?_cons_succ, List.getElem?_cons_zero]; rfl
                case wO_74_17 => rfl
                case qO_74_17 => exact fun _ _ _ h => h
                try simp only [Act.put, List.setIfInBounds_toArray, List.set_cons_zero, List.set_cons_succ]
                refine wpAnyH_take (i := 18) (oi := ?oO_75_18) (v := ?vO_75_18) ?eO_75_18 (by kernel_rfl) (by kernel_rfl) (by kernel_rfl) ?qO_75_18 (Or.inl ⟨?wO_75_18, ?yO_75_18⟩) (by assumption) ?rO_75_18
                case eO_75_18 => simp only [List.getElem?_toArray, List.getElem?_cons_succ, List.getElem?_cons_zero]; rfl
                case wO_75_18 => rfl
                case qO_75_18 => exact fun _ _ _ h => h
                case yO_75_18 => (intro w hSw; (try dsimp only at hSw); go_simp; try with_reducible rfl)
                try simp only [Act.put, List.setIfInBounds_toArray, List.set_cons_zero, List.set_cons_succ]
                refine wpAnyH_done (by kernel_rfl) ?_ _
                go_wp2_with fail
                go_meet
                exact ⟨rfl, HV9.out.below D0⟩
            case rest =>
              obtain ⟨rfl, hv⟩ := hcut
              have HV10 := Lib.hid hv.out
              clear hv HV9 HE9 HK9
              go_wp2_with fail
              go_roundw
              · exact ⟨i + 1, v1, a1, c1, by go_num, by omega, HV10.out⟩
              · simp only [intOf]; omega
    · have u1 : ¬ (i : Int) < (n : Int) := by omega
      have hi20 : i ≤ 20 := by omega
      have HCN := Lib.hid (HV.out.cnt hi20)
      obtain ⟨g1, g2, g3, g4, g5, g6, g7⟩ := HV.out.fin hi20
      have HWW := Lib.hid g1
      obtain ⟨E, hE⟩ : ∃ z, wholeE v = z := ⟨_, rfl⟩
      rw [hE] at HWW g2 g3 g4 g5 g6 g7
      have HAC := Lib.hid g2
      have HPR := Lib.hid g3
      have HAF := Lib.hid g4
      have HDL := Lib.hid g5
      have HAL := Lib.hid g6
      have HKY := Lib.hid g7
      clear g1 g2 g3 g4 g5 g6 g7 hE
      obtain ⟨r0, r1, r2, r3⟩ := HV.out.cells
      go_wp2_with fail
      clear r0 r1 r2 r3
      refine Calls.mono (vwhole_any _ v _ wr HV.out.rows HV.out.wf HCN.out) ?_
      rw [HWW.out]
      intro x5 w5 h5
      obtain ⟨dv, av, rfl, hE, hb⟩ : ∃ dv av, x5 = .returned (.tuple #[.agg (ediCells E dv av).toArray, .int .i64 0]) ∧ EdiAt Any w5 E dv av ∧ Below wr.heap.size wr w5 := h5
      have HV5 := Lib.hid (HV.out.below hb)
      obtain ⟨da, dc, rfl⟩ := hE.drops.isSlice
      obtain ⟨aa, ac, rfl⟩ := hE.adds.isSlice
      obtain ⟨nD, hnD⟩ : ∃ k, E.drops.length = k := ⟨_, rfl⟩
      obtain ⟨nA, hnA⟩ : ∃ k, E.adds.length = k := ⟨_, rfl⟩
      rw [hnD, hnA] at hE ⊢
      have HE5 := Lib.hid hE
      clear hE hnD hnA hb HV HWW
      unfold ediCells
      go_upto_region 21 with fail
      refine wp_gen fun w6 hw6 => ?_
      have hb6 : Below w5.heap.size w5 w6 := by rw [hw6]; exact (Below.refl _ _).alloc (Nat.le_refl _) _
      have HK6 : Hid (Blk w6 w5.heap.size (ediCells E (.slice da nD dc) (.slice aa nA ac)).toArray 57) := by rw [hw6]; exact Blk.at_new rfl rfl
      have HV6 := Lib.hid (HV5.out.below hb6)
      have HE6 := Lib.hid (HE5.out.below hb6)
      clear hw6 hb6 HV5 HE5
      generalize w5.heap.size = eb at *
      obtain ⟨r0, r1, r2, r3, r4⟩ := ediq_cells HK6.out
      go_wp2_with fail
      clear r0 r1 r2 r3 r4
      have hk : ∀ a ∈ E.adds, a.2.least.length ≤ 10000 ∧ a.2.most.length ≤ 10000 := fun a ha => ⟨Nat.le_trans (HKY.out a ha).1 (by decide), Nat.le_trans (HKY.out a ha).2 (by decide)⟩
      have HKK := Lib.hid hk
      clear hk
      refine Calls.mono (append_any _ E _ _ w6 HE6.out (by have := HDL.out; omega) (by have := HAL.out; omega) HKK.out) ?_
      intro x7 w7 h7
      obtain ⟨pa, pc, all, rfl, hp, hl, hall, hb⟩ := appPost_any h7 (edi_len HE6.out (by have := HDL.out; omega) (by have := HAL.out; omega) HKK.out)
      have hPW : parseW all = (E, 0) := by rw [hall HAC.out]; exact HPR.out
      have HV7 := Lib.hid (HV6.out.below hb)
      have HPA := Lib.hid (fun W (hW : Below w7.heap.size w7 W) => parse_any Any (.slice pa all.length pc) all W (hp.below hW) hl)
      rw [hPW] at HPA
      rw [HAC.out]
      clear hp hl hall hb h7 HV6 hPW HE6 HK6
      obtain ⟨na, hna⟩ : ∃ k, all.length = k := ⟨_, rfl⟩
      rw [hna] at HPA ⊢
      clear hna
      go_wp2_with fail
      refine Calls.mono (HPA.out _ (Below.refl _ _)) ?_
      intro x8 w8 h8
      obtain ⟨hb, dv2, av2, rfl, hE⟩ : Below w7.heap.size w7 w8 ∧ ∃ dv av, x8 = .returned (.tuple #[.agg (ediCells E dv av).toArray, .int .i64 0]) ∧ EdiAt (fun k => w7.heap.size ≤ k) w8 E dv av := h8
      have HV8 := Lib.hid (HV7.out.below hb)
      obtain ⟨da2, dc2, rfl⟩ := hE.drops.isSlice
      obtain ⟨aa2, ac2, rfl⟩ := hE.adds.isSlice
      obtain ⟨nD2, hnD⟩ : ∃ k, E.drops.length = k := ⟨_, rfl⟩
      obtain ⟨nA2, hnA⟩ : ∃ k, E.adds.length = k := ⟨_, rfl⟩
      rw [hnD, hnA] at hE ⊢
      have HE8 : Hid (EdiAt Any w8 E (.slice da2 nD2 dc2) (.slice aa2 nA2 ac2)) := ⟨hE.drops.any, hE.adds.any, hE.next, hE.seq, hE.log⟩
      clear hE hnD hnA hb HV7 HPA
      unfold ediCells
      go_upto_region 23 with fail
      refine wp_gen fun w9 hw9 => ?_
      have hb9 : Below w8.heap.size w8 w9 := by rw [hw9]; exact (Below.refl _ _).alloc (Nat.le_refl _) _
      have HK9 : Hid (Blk w9 w8.heap.size (ediCells E (.slice da2 nD2 dc2) (.slice aa2 nA2 ac2)).toArray 57) := by rw [hw9]; exact Blk.at_new rfl rfl
      have HV9 := Lib.hid (HV8.out.below hb9)
      have HE9 := Lib.hid (HE8.out.below hb9)
      clear hw9 hb9 HV8 HE8
      generalize w8.heap.size = kb at *
      have HAP := Lib.hid (fun W (hW : Below w9.heap.size w9 W) b (hr : Rw (rowK filK) Any W (.slice (some ⟨b, 0, none⟩) 5 5) firstV.levels) => apply_any Any _ firstV E _ _ _ W hr firstV_wf (by decide) (HE9.out.below hW) (by have := HDL.out; omega) (by have := HAL.out; omega) (fun a ha => ⟨Nat.le_trans (HKY.out a ha).1 (by decide), Nat.le_trans (HKY.out a ha).2 (by decide)⟩))
      rw [HAF.out] at HAP
      go_cut [17, 18] (fun pv ev wx => Hid (ApAt w vb v (.slice a 5 c) i (v, 0) pv ev wx))
      case first =>
        have D0 : Below w9.heap.size w9 w9.drew := below_drew (Below.refl _ _)
        have HKP : Hid (∀ W, Below w9.heap.size w9 W → (W.cell? ⟨kb, 0, none⟩ = some (.slice da2 nD2 dc2) ∧ W.cell? ⟨kb, 1, none⟩ = some (.slice aa2 nA2 ac2) ∧ W.cell? ⟨kb, 2, none⟩ = some (.int .u64 E.next) ∧ W.cell? ⟨kb, 3, none⟩ = some (.int .u64 E.seq) ∧ W.cell? ⟨kb, 4, none⟩ = some (.int .u64 E.log))) := fun W hW => ediq_cells (HK9.out.below hW HK9.out.lt)
        refine wp_region_held_drew (S := fun W => (W.cell? ⟨kb, 0, none⟩ = some (.slice da2 nD2 dc2) ∧ W.cell? ⟨kb, 1, none⟩ = some (.slice aa2 nA2 ac2) ∧ W.cell? ⟨kb, 2, none⟩ = some (.int .u64 E.next) ∧ W.cell? ⟨kb, 3, none⟩ = some (.int .u64 E.seq) ∧ W.cell? ⟨kb, 4, none⟩ = some (.int .u64 E.log))) (by kernel_rfl) (HKP.out _ D0) (fun hHeld => ?_)
        refine wpAnyH_take (i := 1) (oi := ?oT_76_1) (v := ?vT_76_1) ?eT_76_1 (by kernel_rfl) (by kernel_rfl) (by kernel_rfl) ?qT_76_1 (Or.inl ⟨?wT_76_1, ?yT_76_1⟩) (by assumption) ?rT_76_1
        case eT_76_1 => simp only [List.getElem?_toArray, List.getElem?_cons_succ, List.getElem?_cons_zero]; rfl
        case wT_76_1 => rfl
        case qT_76_1 => exact fun _ _ _ h => h
        case yT_76_1 => (intro w hSw; (try dsimp only at hSw); go_simp; try with_reducible rfl)
        try simp only [Act.put, List.setIfInBounds_toArray, List.set_cons_zero, List.set_cons_succ]
        have hOld := hHeld
        clear hHeld
        refine wpAnyH_ready (rs := [0, 6]) (by kernel_rfl) (by simp) ?_
        refine AllReadyH.cons (o := ?oT_77) ?eT_77 (fun K hK => ?_) (AllReadyH.cons (o := ?pT_77) ?fT_77 (fun K hK => ?_) AllReadyH.nil)
        case eT_77 => simp only [List.getElem?_toArray, List.getElem?_cons_zero]; rfl
        case fT_77 => simp only [List.getElem?_toArray, List.getElem?_cons_succ, List.getElem?_cons_zero]; rfl
        · go_simp
          (go_at_call 29; refine Calls.mono (first_any _) ?_; rintro _ q1 ⟨b1, rfl, hr1, hb1⟩; unfold verCells; have D1 : Below w9.heap.size w9 q1 := D0.trans (hb1.mono D0.size); clear hb1)
          try go_wp2_with fail
          refine hK.out _ _ (HKP.out _ D1) (fun hHeld => ?_)
          clear hK hOld
          try simp only [Act.put, List.setIfInBounds_toArray, List.set_cons_zero, List.set_cons_succ]
          have hOld := hHeld
          clear hHeld
          refine wpAnyH_ready (rs := [2, 6]) (by kernel_rfl) (by simp) ?_
          refine AllReadyH.cons (o := ?oT_78) ?eT_78 (fun K hK => ?_) (AllReadyH.cons (o := ?pT_78) ?fT_78 (fun K hK => ?_) AllReadyH.nil)
          case eT_78 => simp only [List.getElem?_toArray, List.getElem?_cons_succ, List.getElem?_cons_zero]; rfl
          case fT_78 => simp only [List.getElem?_toArray, List.getElem?_cons_succ, List.getElem?_cons_zero]; rfl
          · go_simp
            (go_at_call 28; refine Calls.mono (HAP.out _ D1 b1 hr1) ?_; rintro _ q2 ⟨lv5, rfl, hr5, hb5⟩; obtain ⟨ra, rc, rfl⟩ := hr5.isSlice; unfold verCells; generalize v.levels.length = nV at *; have D2 : Below w9.heap.size w9 q2 := D1.trans (hb5.mono D1.size))
            try go_wp2_with fail
            refine hK.out _ _ (HKP.out _ D2) (fun hHeld => ?_)
            clear hK hOld
            try simp only [Act.put, List.setIfInBounds_toArray, List.set_cons_zero, List.set_cons_succ]
            refine wpAnyH_take (i := 3) (oi := ?oT_79_3) (v := ?vT_79_3) ?eT_79_3 (by kernel_rfl) (by kernel_rfl) (by kernel_rfl) ?qT_79_3 (Or.inl ⟨?wT_79_3, ?yT_79_3⟩) (by assumption) ?rT_79_3
            case eT_79_3 => simp only [List.getElem?_toArray, List.getElem?_cons_succ, List.getElem?_cons_zero]; rfl
            case wT_79_3 => rfl
            case qT_79_3 => exact fun _ _ _ h => h
            case yT_79_3 => (intro w hSw; (try dsimp only at hSw); go_simp; try with_reducible rfl)
            try simp only [Act.put, List.setIfInBounds_toArray, List.set_cons_zero, List.set_cons_succ]
            refine wpAnyH_take (i := 4) (oi := ?oT_80_4) (v := ?vT_80_4) ?eT_80_4 (by kernel_rfl) (by kernel_rfl) (by kernel_rfl) ?qT_80_4 (Or.inl ⟨?wT_80_4, ?yT_80_4⟩) (by assumption) ?rT_80_4
            case eT_80_4 => simp only [List.getElem?_toArray, List.getElem?_cons_succ, List.getElem?_cons_zero]; rfl
            case wT_80_4 => rfl
            case qT_80_4 => exact fun _ _ _ h => h
            case yT_80_4 => (intro w hSw; (try dsimp only at hSw); go_simp; try with_reducible rfl)
            try simp only [Act.put, List.setIfInBounds_toArray, List.set_cons_zero, List.set_cons_succ]
            refine wpAnyH_take (i := 5) (oi := ?oT_81_5) (v := ?vT_81_5) ?eT_81_5 (by kernel_rfl) (by kernel_rfl) (by kernel_rfl) ?qT_81_5 (Or.inl ⟨?wT_81_5, ?yT_81_5⟩) (by assumption) ?rT_81_5
            case eT_81_5 => simp only [List.getElem?_toArray, List.getElem?_cons_succ, List.getElem?_cons_zero]; rfl
            case wT_81_5 => rfl
            case qT_81_5 => exact fun _ _ _ h => h
            case yT_81_5 => (intro w hSw; (try dsimp only at hSw); go_simp; try with_reducible rfl)
            try simp only [Act.put, List.setIfInBounds_toArray, List.set_cons_zero, List.set_cons_succ]
            have hOld := hHeld
            clear hHeld
            refine wpAnyH_ready (rs := [6]) (by kernel_rfl) (by simp) ?_
            refine AllReadyH.cons (o := ?oT_82_6) ?eT_82_6 (fun K hK => ?_) AllReadyH.nil
            case eT_82_6 => simp only [List.getElem?_toArray, List.getElem?_cons_succ, List.getElem?_cons_zero]; rfl
            go_simp
            skip
            try go_wp2_with fail
            refine hK.out _ _ (HKP.out _ (D2.alloc D2.size _)) (fun hHeld => ?_)
            clear hK hOld
            try simp only [Act.put, List.setIfInBounds_toArray, List.set_cons_zero, List.set_cons_succ]
            have hOld := hHeld
            clear hHeld
            refine wpAnyH_ready (rs := [7]) (by kernel_rfl) (by simp) ?_
            refine AllReadyH.cons (o := ?oT_83_7) ?eT_83_7 (fun K hK => ?_) AllReadyH.nil
            case eT_83_7 => simp only [List.getElem?_toArray, List.getElem?_cons_succ, List.getElem?_cons_zero]; rfl
            go_simp
            skip
            try go_wp2_with fail
            refine hK.out _ _ (HKP.out _ (D2.alloc D2.size _)) (fun hHeld => ?_)
            clear hK hOld
            try simp only [Act.put, List.setIfInBounds_toArray, List.set_cons_zero, List.set_cons_succ]
            refine wpAnyH_take (i := 8) (oi := ?oT_84_8) (v := ?vT_84_8) ?eT_84_8 (by kernel_rfl) (by kernel_rfl) (by kernel_rfl) ?qT_84_8 (Or.inl ⟨?wT_84_8, ?yT_84_8⟩) (by assumption) ?rT_84_8
            case eT_84_8 => simp only [List.getElem?_toArray, List.getElem?_cons_succ, List.getElem?_cons_zero]; rfl
            case wT_84_8 => rfl
            case qT_84_8 => exact fun _ _ _ h => h
            case yT_84_8 => (intro w hSw; (try dsimp only at hSw); go_simp; try with_reducible rfl)
            try simp only [Act.put, List.setIfInBounds_toArray, List.set_cons_zero, List.set_cons_succ]
            refine wpAnyH_done (by kernel_rfl) ?_ _
            go_wp2_with fail
            go_meet
            exact apAt_1 HV9.out hr5 D2 D1.size
          · go_simp
            skip
            try go_wp2_with fail
            refine hK.out _ _ (HKP.out _ (D1.alloc D1.size _)) (fun hHeld => ?_)
            clear hK hOld
            try simp only [Act.put, List.setIfInBounds_toArray, List.set_cons_zero, List.set_cons_succ]
            have hOld := hHeld
            clear hHeld
            refine wpAnyH_ready (rs := [2]) (by kernel_rfl) (by simp) ?_
            refine AllReadyH.cons (o := ?oT_85_2) ?eT_85_2 (fun K hK => ?_) AllReadyH.nil
            case eT_85_2 => simp only [List.getElem?_toArray, List.getElem?_cons_succ, List.getElem?_cons_zero]; rfl
            go_simp
            (go_at_call 28; refine Calls.mono (HAP.out _ (D1.alloc D1.size _) b1 (hr1.below ((Below.refl _ _).alloc (Nat.le_refl _) _))) ?_; rintro _ q2 ⟨lv5, rfl, hr5, hb5⟩; obtain ⟨ra, rc, rfl⟩ := hr5.isSlice; unfold verCells; have hb6 : Below q1.heap.size q1 q2 := ((Below.refl _ _).alloc (Nat.le_refl _) _).trans (hb5.mono (by simp)); have HB6 : Hid (Below w9.heap.size w9 q2) := D1.trans (hb6.mono D1.size); have HZ6 : Hid (Blk q2 q1.heap.size zero4 25) := Blk.below (Blk.at_new rfl rfl) hb5 (by simp); obtain ⟨r0, r1, r2, r3, f0, f1, f2, f3⟩ := zero4_cells HZ6.out)
            try go_wp2_with fail
            refine hK.out _ _ (HKP.out _ HB6.out) (fun hHeld => ?_)
            clear hK hOld
            try simp only [Act.put, List.setIfInBounds_toArray, List.set_cons_zero, List.set_cons_succ]
            refine wpAnyH_take (i := 3) (oi := ?oT_86_3) (v := ?vT_86_3) ?eT_86_3 (by kernel_rfl) (by kernel_rfl) (by kernel_rfl) ?qT_86_3 (Or.inl ⟨?wT_86_3, ?yT_86_3⟩) (by assumption) ?rT_86_3
            case eT_86_3 => simp only [List.getElem?_toArray, List.getElem?_cons_succ, List.getElem?_cons_zero]; rfl
            case wT_86_3 => rfl
            case qT_86_3 => exact fun _ _ _ h => h
            case yT_86_3 => (intro w hSw; (try dsimp only at hSw); go_simp; try with_reducible rfl)
            try simp only [Act.put, List.setIfInBounds_toArray, List.set_cons_zero, List.set_cons_succ]
            refine wpAnyH_take (i := 4) (oi := ?oT_87_4) (v := ?vT_87_4) ?eT_87_4 (by kernel_rfl) (by kernel_rfl) (by kernel_rfl) ?qT_87_4 (Or.inl ⟨?wT_87_4, ?yT_87_4⟩) (by assumption) ?rT_87_4
            case eT_87_4 => simp only [List.getElem?_toArray, List.getElem?_cons_succ, List.getElem?_cons_zero]; rfl
            case wT_87_4 => rfl
            case qT_87_4 => exact fun _ _ _ h => h
            case yT_87_4 => (intro w hSw; (try dsimp only at hSw); go_simp; try with_reducible rfl)
            try simp only [Act.put, List.setIfInBounds_toArray, List.set_cons_zero, List.set_cons_succ]
            refine wpAnyH_take (i := 5) (oi := ?oT_88_5) (v := ?vT_88_5) ?eT_88_5 (by kernel_rfl) (by kernel_rfl) (by kernel_rfl) ?qT_88_5 (Or.inl ⟨?wT_88_5, ?yT_88_5⟩) (by assumption) ?rT_88_5
            case eT_88_5 => simp only [List.getElem?_toArray, List.getElem?_cons_succ, List.getElem?_cons_zero]; rfl
            case wT_88_5 => rfl
            case qT_88_5 => exact fun _ _ _ h => h
            case yT_88_5 => (intro w hSw; (try dsimp only at hSw); go_simp; try with_reducible rfl)
            try simp only [Act.put, List.setIfInBounds_toArray, List.set_cons_zero, List.set_cons_succ]
            have hOld := hHeld
            clear hHeld
            refine wpAnyH_ready (rs := [7]) (by kernel_rfl) (by simp) ?_
            refine AllReadyH.cons (o := ?oT_89_7) ?eT_89_7 (fun K hK => ?_) AllReadyH.nil
            case eT_89_7 => simp only [List.getElem?_toArray, List.getElem?_cons_succ, List.getElem?_cons_zero]; rfl
            go_simp
            skip
            try go_wp2_with fail
            refine hK.out _ _ (HKP.out _ (below_set4 HB6.out D1.size)) (fun hHeld => ?_)
            clear hK hOld
            try simp only [Act.put, List.setIfInBounds_toArray, List.set_cons_zero, List.set_cons_succ]
            refine wpAnyH_take (i := 8) (oi := ?oT_90_8) (v := ?vT_90_8) ?eT_90_8 (by kernel_rfl) (by kernel_rfl) (by kernel_rfl) ?qT_90_8 (Or.inl ⟨?wT_90_8, ?yT_90_8⟩) (by assumption) ?rT_90_8
            case eT_90_8 => simp only [List.getElem?_toArray, List.getElem?_cons_succ, List.getElem?_cons_zero]; rfl
            case wT_90_8 => rfl
            case qT_90_8 => exact fun _ _ _ h => h
            case yT_90_8 => (intro w hSw; (try dsimp only at hSw); go_simp; try with_reducible rfl)
            try simp only [Act.put, List.setIfInBounds_toArray, List.set_cons_zero, List.set_cons_succ]
            refine wpAnyH_done (by kernel_rfl) ?_ _
            go_wp2_with fail
            go_meet
            exact apAt_2 HV9.out HZ6.out hr5 HB6.out (by simp) D1.size
        · go_simp
          skip
          try go_wp2_with fail
          refine hK.out _ _ (HKP.out _ (D0.alloc (Nat.le_refl _) _)) (fun hHeld => ?_)
          clear hK hOld
          try simp only [Act.put, List.setIfInBounds_toArray, List.set_cons_zero, List.set_cons_succ]
          have hOld := hHeld
          clear hHeld
          refine wpAnyH_ready (rs := [0]) (by kernel_rfl) (by simp) ?_
          refine AllReadyH.cons (o := ?oT_91_0) ?eT_91_0 (fun K hK => ?_) AllReadyH.nil
          case eT_91_0 => simp only [List.getElem?_toArray, List.getElem?_cons_zero]; rfl
          go_simp
          (go_at_call 29; refine Calls.mono (first_any _) ?_; rintro _ q1 ⟨b1, rfl, hr1, hb1⟩; unfold verCells; have D1 : Below w9.heap.size w9 q1 := below_ad hb1; have HZ1 : Hid (Blk q1 w9.heap.size zero4 25) := blk_ad hb1; clear hb1)
          try go_wp2_with fail
          refine hK.out _ _ (HKP.out _ D1) (fun hHeld => ?_)
          clear hK hOld
          try simp only [Act.put, List.setIfInBounds_toArray, List.set_cons_zero, List.set_cons_succ]
          have hOld := hHeld
          clear hHeld
          refine wpAnyH_ready (rs := [2]) (by kernel_rfl) (by simp) ?_
          refine AllReadyH.cons (o := ?oT_92_2) ?eT_92_2 (fun K hK => ?_) AllReadyH.nil
          case eT_92_2 => simp only [List.getElem?_toArray, List.getElem?_cons_succ, List.getElem?_cons_zero]; rfl
          go_simp
          (go_at_call 28; refine Calls.mono (HAP.out _ D1 b1 hr1) ?_; rintro _ q2 ⟨lv5, rfl, hr5, hb5⟩; obtain ⟨ra, rc, rfl⟩ := hr5.isSlice; unfold verCells; have HB6 : Hid (Below w9.heap.size w9 q2) := D1.trans (hb5.mono D1.size); have HZ6 : Hid (Blk q2 w9.heap.size zero4 25) := HZ1.out.below hb5 HZ1.out.lt; obtain ⟨r0, r1, r2, r3, f0, f1, f2, f3⟩ := zero4_cells HZ6.out)
          try go_wp2_with fail
          refine hK.out _ _ (HKP.out _ HB6.out) (fun hHeld => ?_)
          clear hK hOld
          try simp only [Act.put, List.setIfInBounds_toArray, List.set_cons_zero, List.set_cons_succ]
          refine wpAnyH_take (i := 3) (oi := ?oT_93_3) (v := ?vT_93_3) ?eT_93_3 (by kernel_rfl) (by kernel_rfl) (by kernel_rfl) ?qT_93_3 (Or.inl ⟨?wT_93_3, ?yT_93_3⟩) (by assumption) ?rT_93_3
          case eT_93_3 => simp only [List.getElem?_toArray, List.getElem?_cons_succ, List.getElem?_cons_zero]; rfl
          case wT_93_3 => rfl
          case qT_93_3 => exact fun _ _ _ h => h
          case yT_93_3 => (intro w hSw; (try dsimp only at hSw); go_simp; try with_reducible rfl)
          try simp only [Act.put, List.setIfInBounds_toArray, List.set_cons_zero, List.set_cons_succ]
          refine wpAnyH_take (i := 4) (oi := ?oT_94_4) (v := ?vT_94_4) ?eT_94_4 (by kernel_rfl) (by kernel_rfl) (by kernel_rfl) ?qT_94_4 (Or.inl ⟨?wT_94_4, ?yT_94_4⟩) (by assumption) ?rT_94_4
          case eT_94_4 => simp only [List.getElem?_toArray, List.getElem?_cons_succ, List.getElem?_cons_zero]; rfl
          case wT_94_4 => rfl
          case qT_94_4 => exact fun _ _ _ h => h
          case yT_94_4 => (intro w hSw; (try dsimp only at hSw); go_simp; try with_reducible rfl)
          try simp only [Act.put, List.setIfInBounds_toArray, List.set_cons_zero, List.set_cons_succ]
          refine wpAnyH_take (i := 5) (oi := ?oT_95_5) (v := ?vT_95_5) ?eT_95_5 (by kernel_rfl) (by kernel_rfl) (by kernel_rfl) ?qT_95_5 (Or.inl ⟨?wT_95_5, ?yT_95_5⟩) (by assumption) ?rT_95_5
          case eT_95_5 => simp only [List.getElem?_toArray, List.getElem?_cons_succ, List.getElem?_cons_zero]; rfl
          case wT_95_5 => rfl
          case qT_95_5 => exact fun _ _ _ h => h
          case yT_95_5 => (intro w hSw; (try dsimp only at hSw); go_simp; try with_reducible rfl)
          try simp only [Act.put, List.setIfInBounds_toArray, List.set_cons_zero, List.set_cons_succ]
          have hOld := hHeld
          clear hHeld
          refine wpAnyH_ready (rs := [7]) (by kernel_rfl) (by simp) ?_
          refine AllReadyH.cons (o := ?oT_96_7) ?eT_96_7 (fun K hK => ?_) AllReadyH.nil
          case eT_96_7 => simp only [List.getElem?_toArray, List.getElem?_cons_succ, List.getElem?_cons_zero]; rfl
          go_simp
          skip
          try go_wp2_with fail
          refine hK.out _ _ (HKP.out _ (below_set4 HB6.out (Nat.le_refl _))) (fun hHeld => ?_)
          clear hK hOld
          try simp only [Act.put, List.setIfInBounds_toArray, List.set_cons_zero, List.set_cons_succ]
          refine wpAnyH_take (i := 8) (oi := ?oT_97_8) (v := ?vT_97_8) ?eT_97_8 (by kernel_rfl) (by kernel_rfl) (by kernel_rfl) ?qT_97_8 (Or.inl ⟨?wT_97_8, ?yT_97_8⟩) (by assumption) ?rT_97_8
          case eT_97_8 => simp only [List.getElem?_toArray, List.getElem?_cons_succ, List.getElem?_cons_zero]; rfl
          case wT_97_8 => rfl
          case qT_97_8 => exact fun _ _ _ h => h
          case yT_97_8 => (intro w hSw; (try dsimp only at hSw); go_simp; try with_reducible rfl)
          try simp only [Act.put, List.setIfInBounds_toArray, List.set_cons_zero, List.set_cons_succ]
          refine wpAnyH_done (by kernel_rfl) ?_ _
          go_wp2_with fail
          go_meet
          exact apAt_2 HV9.out HZ6.out hr5 HB6.out HZ1.out.lt (Nat.le_refl _)
      case rest =>
        obtain ⟨tb, lv', rfl, rfl, hB, hR, hV, -⟩ := hcut.out
        have HTV := Lib.hid hV
        obtain ⟨ra, rc, rfl⟩ := hR.isSlice
        have HTR := Lib.hid hR
        obtain ⟨k0, k1, k2⟩ := good_small hV.chk
        have HSM : Hid (v.levels.length ≤ 1000000 ∧ ∀ i, i < v.levels.length → (lat v.levels i).length ≤ 1000000) := ⟨by omega, fun j hj => Nat.le_trans (k1 j hj) (by decide)⟩
        obtain ⟨r0, r1, r2, r3⟩ := hV.cells
        obtain ⟨s0, s1, s2, s3⟩ := verq_cells hB
        clear hB hR hV hcut HV9 HE9 HK9 HAP HAF k0 k1 k2
        generalize v.levels.length = nV at s0 HTR
        go_wp2_with fail
        clear r0 r1 r2 r3 s0 s1 s2 s3
        refine Calls.mono (kversion_same _ _ v _ _ wc HTV.out.rows HTR.out HSM.out.1 HSM.out.2) ?_
        rintro _ wz ⟨rfl, hb⟩
        go_wp2_with fail
        go_ret
        exact ⟨rfl, HTV.out.bel.trans (hb.mono HTV.out.bel.size)⟩
end Go.Proofs.Ytkcohhldmhdcfaa
