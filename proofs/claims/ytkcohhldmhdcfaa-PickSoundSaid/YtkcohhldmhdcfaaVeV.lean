/- Chapter 12: (*version.work).add, the walk. -/
import Derived.Test.YtkcohhldmhdcfaaVeU
import Derived.Laws.EntriesVeiled
namespace Go.Proofs.Ytkcohhldmhdcfaa
open Go.RowKit

/-- What add leaves. -/
def AddPost (D E : Nat → Prop) (A wb g : Nat) (files : List (List Fil)) (nx sq lg : Int) (w : World) (e : Ending) (w' : World) : Prop :=
  ∃ us', e = .returned (.tuple #[]) ∧ WorkAt D E A wb g us' files nx sq lg w' ∧ Wrote D w w'

set_option maxRecDepth 100000 in
set_option maxHeartbeats 8000000 in
theorem add_any (D E : Nat → Prop) (A wb g : Nat) (us : List Value) (files : List (List Fil)) (m : Nat) (f : Fil) (vl vm : Value) (nx sq lg : Int) (w : World) (h : WorkAt D E A wb g us files nx sq lg w) (hm5 : m < 5) (hfew : (lat files m).length < 100000)
    (h1 : Bytes (fun k => E k ∧ k < A) w vl f.least) (h2 : Bytes (fun k => E k ∧ k < A) w vm f.most) (hwf : f.wf) :
    Calls Try.prog 71 #[.pointer (some ⟨wb, 0, none⟩), .agg (addCells (m : Int) f vl vm).toArray] w (AddPost D E A wb g (addLs files m f) nx sq lg w) := by
  obtain ⟨vla, vlc, rfl⟩ := h1.isSlice
  obtain ⟨vma, vmc, rfl⟩ := h2.isSlice
  have HH := Lib.hid h
  have H1 := Lib.hid h1
  have H2 := Lib.hid h2
  have HWF := Lib.hid hwf
  clear h h1 h2 hwf
  unfold addCells filCells
  go_enter Try.func71, Try.ntmps71
  go_upto_region 2 with fail
  refine wp_gen fun w1 hw1 => ?_
  have HX1 : Hid (Blk w1 w.heap.size (addCells (m : Int) f (.slice vla f.least.length vlc) (.slice vma f.most.length vmc)).toArray 104) := by rw [hw1]; exact (Blk.at_new rfl rfl).alloc _
  have HF1 : Hid (w1.cell? ⟨w.heap.size + 1, 0, none⟩ = some (.func (.func 111) #[] #[.pointer (some ⟨w.heap.size, 0, none⟩)])) := by rw [hw1]; exact (blk_two _ _ _ _).cell rfl
  have HW1 : Hid (Below w.heap.size w w1) := by rw [hw1]; exact below_two _ _ _
  have HUD : Hid (∀ m, m < 5 → (uq us m).ownBlock ≠ some w.heap.size) := fun m hm e => by
    have := ((HH.out.fl.row m (by have := HH.out.five; omega)).lt _ e).2
    omega
  have HGD : Hid (g ≠ w.heap.size) := by
    have := (HH.out.fl.lt g rfl).2
    show g ≠ _
    omega
  have HWR : Hid (∀ w', Below w1.heap.size w1 w' → Wrote D w w') := fun w' hb => Wrote.of_below (HW1.out.trans (hb.mono HW1.out.size))
  have HH1 := Lib.hid (HH.out.below HW1.out)
  have H11 := Lib.hid (H1.out.below HW1.out)
  have H21 := Lib.hid (H2.out.below HW1.out)
  clear hw1 H1 H2 HW1
  generalize hfb : w.heap.size + 1 = fb at *
  generalize hab : w.heap.size = ab at *
  clear hfb hab
  obtain ⟨ra, rc, hru, hcm, hfm, hrow⟩ := HH1.out.level hm5
  obtain ⟨fs, hfs⟩ : ∃ fs, lat files m = fs := ⟨_, rfl⟩
  have HFS := Lib.hid hfs
  rw [hfs] at hru hcm hrow hfew
  obtain ⟨n, hn⟩ : ∃ n, fs.length = n := ⟨_, rfl⟩
  have HN := Lib.hid hn
  rw [hn] at hru hcm hrow hfew
  have HRU := Lib.hid hru
  have HCM := Lib.hid hcm
  have HCF := Lib.hid hfm
  have HROW := Lib.hid hrow
  have y0 : w1.cell? ⟨wb, 0, none⟩ = some (.slice (some ⟨g, 0, none⟩) 5 5) := HH1.out.blk.cell rfl
  have x0 : w1.cell? ⟨ab, 0, none⟩ = some (.int .i64 (m : Int)) := HX1.out.cell rfl
  have tm : (m : Int) < 5 := by omega
  have tm0 : 0 ≤ (m : Int) := by omega
  clear hfs hn hru hfm hrow
  go_quiet (fail)
  all_goals
    go_wp2_with fail
    clear y0 x0 hcm
    have hb1 : Below w1.heap.size w1 (w1.drewN nq) := below_dn (Below.refl _ _) _
    have hix := findex_any _ 112 #[.pointer (some ⟨fb, 0, none⟩), .pointer (some ⟨ab, 0, none⟩)] (aheadOf (m : Int) f) (.slice ra n rc) fs (w1.drewN nq) (HROW.out.below hb1).rows (by rw [HN.out]; omega) (add2_asks _ _ (m : Int) f (.slice vla f.least.length vlc) (.slice vma f.most.length vmc) fb ab fs (w1.drewN nq) HX1.out (H11.out.below hb1) (H21.out.below hb1) HF1.out) add2_bodied
    rw [HN.out] at hix
    refine Calls.mono hix ?_
    clear hix hb1
    rintro _ w3 ⟨j, hj, rfl, hb3⟩
    have hb3 : Below w1.heap.size w1 w3 := (below_dn (Below.refl _ _) nq).trans hb3
    obtain ⟨r, hr⟩ : ∃ r : Int, (if j < n then (j : Int) else -1) = r := ⟨_, rfl⟩
    rw [hr]
    have HRR := Lib.hid hr
    clear hr
    have HJ := Lib.hid hj
    have hjn := hj.le
    rw [HN.out] at hjn
    have HX3 := Lib.hid (HX1.out.below hb3 HX1.out.lt)
    have HH3 := Lib.hid (HH1.out.below hb3)
    have HW3 : Hid (Wrote D w w3) := HWR.out _ hb3
    have HCM3 : Hid (w3.cell? ⟨g, m, none⟩ = some (.slice ra n rc)) := (hb3.cell (p := ⟨g, m, none⟩) (World.block_lt_of_cell? _ _ HCM.out)).trans HCM.out
    have HCF3 : Hid (w3.frozen? ⟨g, m, none⟩ = false) := (hb3.frozen (p := ⟨g, m, none⟩) (World.block_lt_of_cell? _ _ HCM.out)).trans HCF.out
    have HROW3 := Lib.hid (HROW.out.below hb3)
    have HGL : Hid (g < w3.heap.size) := Nat.lt_of_lt_of_le (World.block_lt_of_cell? _ _ HCM.out) hb3.size
    have H13 := Lib.hid (H11.out.below hb3)
    have H23 := Lib.hid (H21.out.below hb3)
    clear hj hb3 HX1 HH1 HF1 HWR HROW HCM HCF H11 H21
    go_upto_if 21 with fail
    obtain ⟨bt, hbt⟩ : ∃ bt, decide (r < 0) = bt := ⟨_, rfl⟩
    rw [hbt]
    have HBT := Lib.hid hbt
    clear hbt
    go_cut [6] from 22 to 23 (fun x wx => x = .int .i64 (j : Int) ∧ w3 = wx)
    case first =>
      cases bt with
      | false =>
        have HR0 : Hid (r = (j : Int)) := by
          have h1 := HBT.out
          have h2 := HRR.out
          show _ = _
          split at h2
          · exact h2.symm
          · rw [← h2] at h1; cases h1
        go_wp2_with fail
        go_meet
        exact ⟨int_eq HR0.out, rfl⟩
      | true =>
        have HNJ : Hid ((n : Int) = (j : Int)) := by
          have h1 := HBT.out
          have h2 := HRR.out
          show _ = _
          split at h2
          · rw [← h2] at h1; simp at h1; omega
          · omega
        go_wp2_with fail
        go_meet
        exact ⟨int_eq HNJ.out, rfl⟩
    case rest =>
      obtain ⟨rfl, rfl⟩ := hcut
      clear HRR HBT
      obtain ⟨fs', hfs'⟩ : ∃ fs', insAt fs j f = fs' := ⟨_, rfl⟩
      have HFS' := Lib.hid hfs'
      have hxu : (uq us m).ownBlock ≠ some w3.heap.size := fun e => by
        rw [HRU.out] at e
        have := (HROW3.out.lt _ e).2
        omega
      have hlow : ∀ k, k < A → (Value.slice (some ⟨g, 0, none⟩) 5 5).ownBlock ≠ some k := fun k hk e => by have := (HH3.out.fl.lt k e).1; omega
      have hlow2 : ∀ k, k < A → ∀ i, i < us.length → (uq us i).ownBlock ≠ some k := fun k hk i hi e => by have := ((HH3.out.fl.row i hi).lt k e).1; omega
      have HU5 : Hid (m < us.length) := by have := HH3.out.five; show _ < _; omega
      have hb5 : Below w3.heap.size w3 (w3.drew.alloc (.cells #[.int .u64 f.num, .int .i64 f.size, .slice vla f.least.length vlc, .slice vma f.most.length vmc, .int .i64 f.ents, .int .u64 f.mseq] 42)) := below_al (below_drew (Below.refl _ _)) _
      have hins := fins_any (fun k => E k ∧ Free (.slice (some ⟨g, 0, none⟩) 5 5) us k) A (.slice ra n rc) fs j f (.slice vla f.least.length vlc) (.slice vma f.most.length vmc) w3.heap.size (w3.drew.alloc (.cells #[.int .u64 f.num, .int .i64 f.size, .slice vla f.least.length vlc, .slice vma f.most.length vmc, .int .i64 f.ents, .int .u64 f.mseq] 42)) (HROW3.out.below hb5) (by rw [HN.out]; exact hjn) (by rw [HN.out]; exact hfew) (Blk.at_new rfl rfl)
        ⟨_, _, rfl, (H13.out.below hb5).mono fun k _ hk => ⟨⟨hk.1, hlow k hk.2, hlow2 k hk.2⟩, by rw [← HRU.out]; exact hlow2 k hk.2 m HU5.out⟩, (H23.out.below hb5).mono fun k _ hk => ⟨⟨hk.1, hlow k hk.2, hlow2 k hk.2⟩, by rw [← HRU.out]; exact hlow2 k hk.2 m HU5.out⟩, HWF.out⟩
        (Nat.le_trans HH3.out.le hb5.size) (by rw [← HRU.out]; exact hxu)
      rw [hfs'] at hins
      have HINS := Lib.hid hins
      have HB5 := Lib.hid hb5
      have HKEEP : Hid (∀ (w w' : World), w'.heap[wb]? = w.heap[wb]? → w'.heap[ab]? = w.heap[ab]? → (w.cell? ⟨wb, 0, none⟩ = some (.slice (some ⟨g, 0, none⟩) 5 5) ∧ w.cell? ⟨ab, 0, none⟩ = some (.int .i64 (m : Int)) ∧ w.cell? ⟨ab, 1, none⟩ = some (.int .u64 f.num) ∧ w.cell? ⟨ab, 2, none⟩ = some (.int .i64 f.size) ∧ w.cell? ⟨ab, 3, none⟩ = some (.slice vla f.least.length vlc) ∧ w.cell? ⟨ab, 4, none⟩ = some (.slice vma f.most.length vmc) ∧ w.cell? ⟨ab, 5, none⟩ = some (.int .i64 f.ents) ∧ w.cell? ⟨ab, 6, none⟩ = some (.int .u64 f.mseq)) → (w'.cell? ⟨wb, 0, none⟩ = some (.slice (some ⟨g, 0, none⟩) 5 5) ∧ w'.cell? ⟨ab, 0, none⟩ = some (.int .i64 (m : Int)) ∧ w'.cell? ⟨ab, 1, none⟩ = some (.int .u64 f.num) ∧ w'.cell? ⟨ab, 2, none⟩ = some (.int .i64 f.size) ∧ w'.cell? ⟨ab, 3, none⟩ = some (.slice vla f.least.length vlc) ∧ w'.cell? ⟨ab, 4, none⟩ = some (.slice vma f.most.length vmc) ∧ w'.cell? ⟨ab, 5, none⟩ = some (.int .i64 f.ents) ∧ w'.cell? ⟨ab, 6, none⟩ = some (.int .u64 f.mseq))) := fun w w' e1 e2 h => by
        simp only [World.cell?_of_block (w := w) (w' := w') (a := ⟨wb, _, none⟩) e1, World.cell?_of_block (w := w) (w' := w') (a := ⟨ab, _, none⟩) e2]
        exact h
      have HS3 : Hid (w3.drew.cell? ⟨wb, 0, none⟩ = some (.slice (some ⟨g, 0, none⟩) 5 5) ∧ w3.drew.cell? ⟨ab, 0, none⟩ = some (.int .i64 (m : Int)) ∧ w3.drew.cell? ⟨ab, 1, none⟩ = some (.int .u64 f.num) ∧ w3.drew.cell? ⟨ab, 2, none⟩ = some (.int .i64 f.size) ∧ w3.drew.cell? ⟨ab, 3, none⟩ = some (.slice vla f.least.length vlc) ∧ w3.drew.cell? ⟨ab, 4, none⟩ = some (.slice vma f.most.length vmc) ∧ w3.drew.cell? ⟨ab, 5, none⟩ = some (.int .i64 f.ents) ∧ w3.drew.cell? ⟨ab, 6, none⟩ = some (.int .u64 f.mseq)) := ⟨HH3.out.blk.cell rfl, HX3.out.cell rfl, HX3.out.cell rfl, HX3.out.cell rfl, HX3.out.cell rfl, HX3.out.cell rfl, HX3.out.cell rfl, HX3.out.cell rfl⟩
      have HN1 : Hid (wb ≠ g) := fun e => HH3.out.out (by rw [e]; exact HH3.out.fl.da g rfl)
      clear hfs' hxu hlow hlow2 hb5 hins
      go_upto_region 6 with fail
      refine wp_region_held_drew (S := fun w' => (w'.cell? ⟨wb, 0, none⟩ = some (.slice (some ⟨g, 0, none⟩) 5 5) ∧ w'.cell? ⟨ab, 0, none⟩ = some (.int .i64 (m : Int)) ∧ w'.cell? ⟨ab, 1, none⟩ = some (.int .u64 f.num) ∧ w'.cell? ⟨ab, 2, none⟩ = some (.int .i64 f.size) ∧ w'.cell? ⟨ab, 3, none⟩ = some (.slice vla f.least.length vlc) ∧ w'.cell? ⟨ab, 4, none⟩ = some (.slice vma f.most.length vmc) ∧ w'.cell? ⟨ab, 5, none⟩ = some (.int .i64 f.ents) ∧ w'.cell? ⟨ab, 6, none⟩ = some (.int .u64 f.mseq))) (by kernel_rfl) (HS3.out) (fun hHeld => ?_)
      refine wpAnyH_take (i := 0) (oi := ?oR_0) (v := ?vR_0) ?eR_0 (by kernel_rfl) (by kernel_rfl) (by kernel_rfl) ?qR_0 (Or.inl ⟨?wR_0, ?yR_0⟩) (by assumption) ?rR_0
      case eR_0 => simp only [List.getElem?_toArray, List.getElem?_cons_zero]; rfl
      case wR_0 => rfl
      case qR_0 => exact fun _ _ _ h => h
      case yR_0 => (intro w hSw; (try dsimp only at hSw); go_simp; try with_reducible rfl)
      try simp only [Act.put, List.setIfInBounds_toArray, List.set_cons_zero, List.set_cons_succ]
      refine wpAnyH_take (i := 1) (oi := ?oR_1) (v := ?vR_1) ?eR_1 (by kernel_rfl) (by kernel_rfl) (by kernel_rfl) ?qR_1 (Or.inl ⟨?wR_1, ?yR_1⟩) (by assumption) ?rR_1
      case eR_1 => simp only [List.getElem?_toArray, List.getElem?_cons_succ, List.getElem?_cons_zero]; rfl
      case wR_1 => rfl
      case qR_1 => exact fun _ _ _ h => h
      case yR_1 => (intro w hSw; (try dsimp only at hSw); go_simp; try with_reducible rfl)
      try simp only [Act.put, List.setIfInBounds_toArray, List.set_cons_zero, List.set_cons_succ]
      refine wpAnyH_take (i := 2) (oi := ?oR_2) (v := ?vR_2) ?eR_2 (by kernel_rfl) (by kernel_rfl) (by kernel_rfl) ?qR_2 (Or.inl ⟨?wR_2, ?yR_2⟩) (by assumption) ?rR_2
      case eR_2 => simp only [List.getElem?_toArray, List.getElem?_cons_succ, List.getElem?_cons_zero]; rfl
      case wR_2 => rfl
      case qR_2 => exact fun _ _ _ h => h
      case yR_2 => (intro w hSw; (try dsimp only at hSw); go_simp; try with_reducible rfl)
      try simp only [Act.put, List.setIfInBounds_toArray, List.set_cons_zero, List.set_cons_succ]
      refine wpAnyH_take (i := 3) (oi := ?oR_3) (v := ?vR_3) ?eR_3 (by kernel_rfl) (by kernel_rfl) (by kernel_rfl) ?qR_3 (Or.inl ⟨?wR_3, ?yR_3⟩) (by assumption) ?rR_3
      case eR_3 => simp only [List.getElem?_toArray, List.getElem?_cons_succ, List.getElem?_cons_zero]; rfl
      case wR_3 => rfl
      case qR_3 => exact fun _ _ _ h => h
      case yR_3 => (intro w hSw; (try dsimp only at hSw); go_simp; try with_reducible rfl)
      try simp only [Act.put, List.setIfInBounds_toArray, List.set_cons_zero, List.set_cons_succ]
      refine wpAnyH_take (i := 4) (oi := ?oR_4) (v := ?vR_4) ?eR_4 (by kernel_rfl) (by kernel_rfl) (by kernel_rfl) ?qR_4 (Or.inl ⟨?wR_4, ?yR_4⟩) (by assumption) ?rR_4
      case eR_4 => simp only [List.getElem?_toArray, List.getElem?_cons_succ, List.getElem?_cons_zero]; rfl
      case wR_4 => rfl
      case qR_4 => exact fun _ _ _ h => h
      case yR_4 => (intro w hSw; (try dsimp only at hSw); go_simp; try with_reducible rfl)
      try simp only [Act.put, List.setIfInBounds_toArray, List.set_cons_zero, List.set_cons_succ]
      refine wpAnyH_take (i := 5) (oi := ?oR_5) (v := ?vR_5) ?eR_5 (by kernel_rfl) (by kernel_rfl) (by kernel_rfl) ?qR_5 (Or.inl ⟨?wR_5, ?yR_5⟩) (by assumption) ?rR_5
      case eR_5 => simp only [List.getElem?_toArray, List.getElem?_cons_succ, List.getElem?_cons_zero]; rfl
      case wR_5 => rfl
      case qR_5 => exact fun _ _ _ h => h
      case yR_5 => (intro w hSw; (try dsimp only at hSw); go_simp; try with_reducible rfl)
      try simp only [Act.put, List.setIfInBounds_toArray, List.set_cons_zero, List.set_cons_succ]
      refine wpAnyH_take (i := 6) (oi := ?oR_6) (v := ?vR_6) ?eR_6 (by kernel_rfl) (by kernel_rfl) (by kernel_rfl) ?qR_6 (Or.inl ⟨?wR_6, ?yR_6⟩) (by assumption) ?rR_6
      case eR_6 => simp only [List.getElem?_toArray, List.getElem?_cons_succ, List.getElem?_cons_zero]; rfl
      case wR_6 => rfl
      case qR_6 => exact fun _ _ _ h => h
      case yR_6 => (intro w hSw; (try dsimp only at hSw); go_simp; try with_reducible rfl)
      try simp only [Act.put, List.setIfInBounds_toArray, List.set_cons_zero, List.set_cons_succ]
      refine wpAnyH_take (i := 7) (oi := ?oR_7) (v := ?vR_7) ?eR_7 (by kernel_rfl) (by kernel_rfl) (by kernel_rfl) ?qR_7 (Or.inl ⟨?wR_7, ?yR_7⟩) (by assumption) ?rR_7
      case eR_7 => simp only [List.getElem?_toArray, List.getElem?_cons_succ, List.getElem?_cons_zero]; rfl
      case wR_7 => rfl
      case qR_7 => exact fun _ _ _ h => h
      case yR_7 => (intro w hSw; (try dsimp only at hSw); go_simp; try with_reducible rfl)
      try simp only [Act.put, List.setIfInBounds_toArray, List.set_cons_zero, List.set_cons_succ]
      refine wpAnyH_take (i := 8) (oi := ?oR_8) (v := ?vR_8) ?eR_8 (by kernel_rfl) (by kernel_rfl) (by kernel_rfl) ?qR_8 (Or.inl ⟨?wR_8, ?yR_8⟩) (by assumption) ?rR_8
      case eR_8 => simp only [List.getElem?_toArray, List.getElem?_cons_succ, List.getElem?_cons_zero]; rfl
      case wR_8 => rfl
      case qR_8 => exact fun _ _ _ h => h
      case yR_8 => (intro w hSw; (try dsimp only at hSw); go_simp; try with_reducible rfl)
      try simp only [Act.put, List.setIfInBounds_toArray, List.set_cons_zero, List.set_cons_succ]
      refine wpAnyH_take (i := 9) (oi := ?oR_9) (v := ?vR_9) ?eR_9 (by kernel_rfl) (by kernel_rfl) (by kernel_rfl) ?qR_9 (Or.inl ⟨?wR_9, ?yR_9⟩) (by assumption) ?rR_9
      case eR_9 => simp only [List.getElem?_toArray, List.getElem?_cons_succ, List.getElem?_cons_zero]; rfl
      case wR_9 => rfl
      case qR_9 => exact fun _ _ _ h => h
      case yR_9 => (intro w hSw; (try dsimp only at hSw); go_simp; try with_reducible rfl)
      try simp only [Act.put, List.setIfInBounds_toArray, List.set_cons_zero, List.set_cons_succ]
      refine wpAnyH_take (i := 10) (oi := ?oR_10) (v := ?vR_10) ?eR_10 (by kernel_rfl) (by kernel_rfl) (by kernel_rfl) ?qR_10 (Or.inl ⟨?wR_10, ?yR_10⟩) (by assumption) ?rR_10
      case eR_10 => simp only [List.getElem?_toArray, List.getElem?_cons_succ, List.getElem?_cons_zero]; rfl
      case wR_10 => rfl
      case qR_10 => exact fun _ _ _ h => h
      case yR_10 => (intro w hSw; (try dsimp only at hSw); go_simp; try with_reducible rfl)
      try simp only [Act.put, List.setIfInBounds_toArray, List.set_cons_zero, List.set_cons_succ]
      refine wpAnyH_ready (rs := [11]) (by kernel_rfl) (by simp) ?_
      refine AllReadyH.cons (o := ?oR_11) ?eR_11 (fun K hK => ?_) AllReadyH.nil
      case eR_11 => simp only [List.getElem?_toArray, List.getElem?_cons_succ, List.getElem?_cons_zero]; rfl
      go_simp
      skip
      try go_wp2_with fail
      refine hK.out _ _ (HKEEP.out w3.drew _ (HB5.out.block wb HH3.out.blk.lt) (HB5.out.block ab HX3.out.lt) HS3.out) (fun hHeld => ?_)
      clear hK
      try simp only [Act.put, List.setIfInBounds_toArray, List.set_cons_zero, List.set_cons_succ]
      refine wpAnyH_ready (rs := [12]) (by kernel_rfl) (by simp) ?_
      refine AllReadyH.cons (o := ?oR_12) ?eR_12 (fun K hK => ?_) AllReadyH.nil
      case eR_12 => simp only [List.getElem?_toArray, List.getElem?_cons_succ, List.getElem?_cons_zero]; rfl
      go_simp
      (go_at_call 113; refine Calls.mono HINS.out ?_; rintro _ w4 ⟨v4, rfl, ho4, hg4⟩; obtain ⟨a4, c4, rfl⟩ := ho4.isSlice; have z1 : w4.heap[wb]? = w3.heap[wb]? := (hg4.grown.block wb (Nat.lt_of_lt_of_le HH3.out.blk.lt HB5.out.size) (fun e => HH3.out.out (HH3.out.fl.dr m wb HU5.out (by rw [HRU.out]; exact e.symm)))).trans (HB5.out.block wb HH3.out.blk.lt); have z2 : w4.heap[ab]? = w3.heap[ab]? := (hg4.grown.block ab (Nat.lt_of_lt_of_le HX3.out.lt HB5.out.size) (fun e => HUD.out m hm5 (by rw [HRU.out]; exact e.symm))).trans (HB5.out.block ab HX3.out.lt); have z3 : w4.heap[g]? = w3.heap[g]? := (hg4.grown.block g (Nat.lt_of_lt_of_le HGL.out HB5.out.size) (fun e => HH3.out.fl.ne m g HU5.out (by rw [HRU.out]; exact e.symm) rfl)).trans (HB5.out.block g HGL.out); have hs4 := HKEEP.out w3.drew w4 z1 z2 HS3.out; have k4 : w4.cell? ⟨g, m, none⟩ = some (.slice ra n rc) := (World.cell?_of_block (w := w3) z3).trans HCM3.out; have f4 : w4.frozen? ⟨g, m, none⟩ = false := (frozen_of_block (w := w3) z3).trans HCF3.out; clear z1 z2 z3)
      try go_wp2_with fail
      refine hK.out _ _ (hs4) (fun hHeld => ?_)
      clear hK
      try simp only [Act.put, List.setIfInBounds_toArray, List.set_cons_zero, List.set_cons_succ]
      refine wpAnyH_take (i := 13) (oi := ?oR_13) (v := ?vR_13) ?eR_13 (by kernel_rfl) (by kernel_rfl) (by kernel_rfl) ?qR_13 (Or.inl ⟨?wR_13, ?yR_13⟩) (by assumption) ?rR_13
      case eR_13 => simp only [List.getElem?_toArray, List.getElem?_cons_succ, List.getElem?_cons_zero]; rfl
      case wR_13 => rfl
      case qR_13 => exact fun _ _ _ h => h
      case yR_13 => (intro w hSw; (try dsimp only at hSw); go_simp; try with_reducible rfl)
      try simp only [Act.put, List.setIfInBounds_toArray, List.set_cons_zero, List.set_cons_succ]
      refine wpAnyH_ready (rs := [14]) (by kernel_rfl) (by simp) ?_
      refine AllReadyH.cons (o := ?oR_14) ?eR_14 (fun K hK => ?_) AllReadyH.nil
      case eR_14 => simp only [List.getElem?_toArray, List.getElem?_cons_succ, List.getElem?_cons_zero]; rfl
      go_simp
      skip
      try go_wp2_with fail
      refine hK.out _ _ (HKEEP.out w4 _ (heap_setCell_other _ _ _ _ HN1.out) (heap_setCell_other _ _ _ _ (fun e => HGD.out e.symm)) hs4) (fun hHeld => ?_)
      clear hK
      try simp only [Act.put, List.setIfInBounds_toArray, List.set_cons_zero, List.set_cons_succ]
      refine wpAnyH_done (by kernel_rfl) ?_ _
      have HP : Hid (AddPost D E A wb g (addLs files m f) nx sq lg w (.returned (.tuple #[])) (w4.setCell ⟨g, m, none⟩ (.slice a4 fs'.length c4))) := by
        have hp : addLs files m f = files.set m fs' := by
          unfold addLs addTo
          rw [HFS.out, HJ.out.idx, HFS'.out]
        have hg5 := HH3.out.five
        have h3 := HH3.out.below HB5.out
        have hww : Wrote D (w3.drew.alloc (.cells #[.int .u64 f.num, .int .i64 f.size, .slice vla f.least.length vlc, .slice vma f.most.length vmc, .int .i64 f.ents, .int .u64 f.mseq] 42)) (w4.setCell ⟨g, m, none⟩ (.slice a4 fs'.length c4)) :=
          Wrote.setCell ⟨hg4.grown.os, hg4.grown.tape, hg4.grown.output, hg4.grown.size, fun k hk hn => hg4.grown.block k hk fun e => hn (HH3.out.fl.dr m k HU5.out (by rw [HRU.out]; exact e.symm))⟩ _ _ (.inl (HH3.out.fl.da g rfl))
        have hfl := h3.fl
        rw [← hg5] at hfl
        have hlast := Fw.last (m := m) (u' := .slice a4 fs'.length c4) (cur := fs') (w' := w4) hfl HU5.out (by rw [hg5]; exact ho4) (by rw [HRU.out]; exact hg4) rfl fun k hk => h3.new k hk
        rw [hg5] at hlast
        rw [hp]
        refine ⟨us.set m (.slice a4 fs'.length c4), rfl, ⟨h3.blk.same (hww.block _ h3.blk.lt h3.out), hlast, by rw [List.length_set]; exact hg5, h3.out, fun k hk => h3.new k (Nat.le_trans hww.size hk), Nat.le_trans h3.le hww.size⟩, HW3.out.trans ?_⟩
        exact (Wrote.of_below HB5.out).trans hww
      clear ho4 hg4 hs4 k4 f4 hHeld
      go_end0
      exact HP.out
end Go.Proofs.Ytkcohhldmhdcfaa
