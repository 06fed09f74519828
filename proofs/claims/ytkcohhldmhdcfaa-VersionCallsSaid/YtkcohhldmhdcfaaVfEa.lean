/- Chapter 12's document: own. (Under way.) Chapter 12's document: Overlap. Chapter 12's document: Deepest. Chapter 14's document: upper, plain. Chapter 14's document: upper. (Under way.) -/
import Derived.Test.YtkcohhldmhdcfaaPkQa
namespace Go.Proofs.Ytkcohhldmhdcfaa
open Go.RowKit

theorem below_chain {w W x : World} (h : Below w.heap.size w W) (k : Below W.heap.size W x) : Below w.heap.size w x := h.trans (k.mono h.size)
theorem own_fin {w w1 x1 x2 : World} {f : Fil} {v1 v2 ol om : Value} (HF : Blk x2 w.heap.size (filCells f ol om).toArray 42) (HZ : Blk x2 (w.heap.size + 1) zeroFil.cells 42) (hz : w.heap.size + 1 < w1.heap.size) (hW : Below w.heap.size w w1) (hB : Below w1.heap.size w1 x2) (hC : Below x1.heap.size x1 x2)
    (h1 : Bytes (fun k => w1.heap.size ≤ k) x1 v1 f.least) (h2 : Bytes (fun k => w1.heap.size ≤ k) x2 v2 f.most) :
    Blk ((x2.setCell ⟨w.heap.size, 2, none⟩ v1).setCell ⟨w.heap.size, 3, none⟩ v2) w.heap.size (filCells f v1 v2).toArray 42 ∧ Blk ((x2.setCell ⟨w.heap.size, 2, none⟩ v1).setCell ⟨w.heap.size, 3, none⟩ v2) (w.heap.size + 1) zeroFil.cells 42 ∧
    Bytes (fun k => w.heap.size + 1 < k) ((x2.setCell ⟨w.heap.size, 2, none⟩ v1).setCell ⟨w.heap.size, 3, none⟩ v2) v1 f.least ∧ Bytes (fun k => w.heap.size + 1 < k) ((x2.setCell ⟨w.heap.size, 2, none⟩ v1).setCell ⟨w.heap.size, 3, none⟩ v2) v2 f.most ∧ Below w.heap.size w ((x2.setCell ⟨w.heap.size, 2, none⟩ v1).setCell ⟨w.heap.size, 3, none⟩ v2) :=
  ⟨(HF.set 2 _).set 3 _, (HZ.set_other _ _ (by simp)).set_other _ _ (by simp),
   (((h1.below hC).mono (F' := fun k => w.heap.size + 1 < k) fun k _ hk => by omega).off_set _ _ fun k hk => by show k ≠ w.heap.size; omega).off_set _ _ fun k hk => by show k ≠ w.heap.size; omega,
   ((h2.mono (F' := fun k => w.heap.size + 1 < k) fun k _ hk => by omega).off_set _ _ fun k hk => by show k ≠ w.heap.size; omega).off_set _ _ fun k hk => by show k ≠ w.heap.size; omega,
   ((hW.trans (hB.mono hW.size)).setCell (Nat.le_refl _) _).setCell (Nat.le_refl _) _⟩
theorem own_end {w w5 : World} {f : Fil} {v1 v2 : Value} (hz : Blk w5 (w.heap.size + 1) zeroFil.cells 42) (h1 : Bytes (fun k => w.heap.size + 1 < k) w5 v1 f.least) (h2 : Bytes (fun k => w.heap.size + 1 < k) w5 v2 f.most) (hb : Below w.heap.size w w5) :
    Blk (set6 w5 (w.heap.size + 1) f v1 v2) (w.heap.size + 1) (filCells f v1 v2).toArray 42 ∧ Bytes (fun k => w.heap.size ≤ k) (set6 w5 (w.heap.size + 1) f v1 v2) v1 f.least ∧ Bytes (fun k => w.heap.size ≤ k) (set6 w5 (w.heap.size + 1) f v1 v2) v2 f.most ∧ Below w.heap.size w (set6 w5 (w.heap.size + 1) f v1 v2) :=
  ⟨hz.set6z, (h1.blk6 fun k hk e => by omega).mono fun k _ hk => by omega, (h2.blk6 fun k hk e => by omega).mono fun k _ hk => by omega, below_set6 hb (by omega)⟩
set_option maxRecDepth 100000 in
set_option maxHeartbeats 4000000 in
theorem rown_any (F G : Nat → Prop) (f : Fil) (vl vm : Value) (w : World) (hl : Bytes F w vl f.least) (hm : Bytes G w vm f.most) (h1 : f.least.length ≤ 140737488355328) (h2 : f.most.length ≤ 140737488355328) :
    Calls Try.prog 82 #[.agg (filCells f vl vm).toArray] w fun e w' => ∃ vl' vm', e = .returned (.agg (filCells f vl' vm').toArray) ∧ Bytes (fun k => w.heap.size ≤ k) w' vl' f.least ∧ Bytes (fun k => w.heap.size ≤ k) w' vm' f.most ∧ Below w.heap.size w w' := by
  obtain ⟨la, lc, rfl⟩ := hl.isSlice
  obtain ⟨ma, mc, rfl⟩ := hm.isSlice
  have HL := Lib.hid hl
  have HM := Lib.hid hm
  clear hl hm
  unfold filCells
  go_enter Try.func82, Try.ntmps82
  go_upto_region 1 with fail
  refine wp_gen fun w1 hw1 => ?_
  have HF1 : Hid (Blk w1 w.heap.size (filCells f (.slice la f.least.length lc) (.slice ma f.most.length mc)).toArray 42) := by rw [hw1]; exact (Blk.at_new rfl rfl).alloc _
  have HZ1 : Hid (Blk w1 (w.heap.size + 1) zeroFil.cells 42) := by rw [hw1]; exact blk_two _ _ _ _
  have HW1 : Hid (Below w.heap.size w w1) := by rw [hw1]; exact below_two _ _ _
  clear hw1
  have HL1 := Lib.hid (HL.out.below HW1.out)
  have HM1 := Lib.hid (HM.out.below HW1.out)
  clear HL HM
  have HKP : Hid (∀ W, Below w1.heap.size w1 W → (W.cell? ⟨w.heap.size, 2, none⟩ = some (.slice la f.least.length lc) ∧ W.cell? ⟨w.heap.size, 3, none⟩ = some (.slice ma f.most.length mc))) := fun W hb => ⟨(HF1.out.below hb HF1.out.lt).cell rfl, (HF1.out.below hb HF1.out.lt).cell rfl⟩
  have hD0 : Below w1.heap.size w1 w1.drew := below_drew (Below.refl _ _)
  have hHeld := HKP.out _ hD0
  refine wp_region_last3 (S := fun w' => w'.cell? ⟨w.heap.size, 2, none⟩ = some (.slice la f.least.length lc) ∧ w'.cell? ⟨w.heap.size, 3, none⟩ = some (.slice ma f.most.length mc)) (n := 9) (l := [?a0, ?a1, ?a2, ?a3, ?a4, ?a5, ?a6, ?a7, ?a8]) (o1 := ?o1) (o2 := ?o2) (o3 := ?o3) rfl ?hl ?hn ?b1 ?b2 ?b3 ?g1 ?g2 ?g3 ?hU
  case hl => exact rfl
  case hn => rfl
  case b1 => kernel_rfl
  case b2 => kernel_rfl
  case b3 => kernel_rfl
  case g1 => rfl
  case g2 => rfl
  case g3 => rfl
  skip
  refine wpAnyH_take (i := 1) (oi := ?oA_1_1) (v := ?vA_1_1) ?eA_1_1 (by kernel_rfl) (by kernel_rfl) (by kernel_rfl) ?qA_1_1 (Or.inl ⟨?wA_1_1, ?yA_1_1⟩) (by assumption) ?rA_1_1
  case eA_1_1 => simp only [List.getElem?_toArray, List.getElem?_cons_succ, List.getElem?_cons_zero]; rfl
  case wA_1_1 => rfl
  case qA_1_1 => exact fun _ _ _ h => h
  case yA_1_1 => (intro w hSw; (try dsimp only at hSw); go_simp; try with_reducible rfl)
  try simp only [Act.put, List.setIfInBounds_toArray, List.set_cons_zero, List.set_cons_succ]
  refine wpAnyH_take (i := 2) (oi := ?oA_2_2) (v := ?vA_2_2) ?eA_2_2 (by kernel_rfl) (by kernel_rfl) (by kernel_rfl) ?qA_2_2 (Or.inl ⟨?wA_2_2, ?yA_2_2⟩) (by assumption) ?rA_2_2
  case eA_2_2 => simp only [List.getElem?_toArray, List.getElem?_cons_succ, List.getElem?_cons_zero]; rfl
  case wA_2_2 => rfl
  case qA_2_2 => exact fun _ _ _ h => h
  case yA_2_2 => (intro w hSw; (try dsimp only at hSw); go_simp; try with_reducible rfl)
  try simp only [Act.put, List.setIfInBounds_toArray, List.set_cons_zero, List.set_cons_succ]
  refine wpAnyH_take (i := 5) (oi := ?oA_3_5) (v := ?vA_3_5) ?eA_3_5 (by kernel_rfl) (by kernel_rfl) (by kernel_rfl) ?qA_3_5 (Or.inl ⟨?wA_3_5, ?yA_3_5⟩) (by assumption) ?rA_3_5
  case eA_3_5 => simp only [List.getElem?_toArray, List.getElem?_cons_succ, List.getElem?_cons_zero]; rfl
  case wA_3_5 => rfl
  case qA_3_5 => exact fun _ _ _ h => h
  case yA_3_5 => (intro w hSw; (try dsimp only at hSw); go_simp; try with_reducible rfl)
  try simp only [Act.put, List.setIfInBounds_toArray, List.set_cons_zero, List.set_cons_succ]
  refine wpAnyH_take (i := 6) (oi := ?oA_4_6) (v := ?vA_4_6) ?eA_4_6 (by kernel_rfl) (by kernel_rfl) (by kernel_rfl) ?qA_4_6 (Or.inl ⟨?wA_4_6, ?yA_4_6⟩) (by assumption) ?rA_4_6
  case eA_4_6 => simp only [List.getElem?_toArray, List.getElem?_cons_succ, List.getElem?_cons_zero]; rfl
  case wA_4_6 => rfl
  case qA_4_6 => exact fun _ _ _ h => h
  case yA_4_6 => (intro w hSw; (try dsimp only at hSw); go_simp; try with_reducible rfl)
  try simp only [Act.put, List.setIfInBounds_toArray, List.set_cons_zero, List.set_cons_succ]
  have hOld := hHeld
  clear hHeld
  refine wpAnyH_ready (rs := [0, 4]) (by kernel_rfl) (by simp) ?_
  refine AllReadyH.cons (o := ?oA_5) ?eA_5 (fun K hK => ?_) (AllReadyH.cons (o := ?pA_5) ?fA_5 (fun K hK => ?_) AllReadyH.nil)
  case eA_5 => simp only [List.getElem?_toArray, List.getElem?_cons_zero]; rfl
  case fA_5 => simp only [List.getElem?_toArray, List.getElem?_cons_succ, List.getElem?_cons_zero]; rfl
  · go_simp
    skip
    try go_wp2_with fail
    refine hK.out _ _ (HKP.out _ (by repeat (first | assumption | exact Below.refl _ _ | with_reducible refine below_drew ?_ | with_reducible refine below_al ?_ _))) (fun hHeld => ?_)
    clear hK hOld
    try simp only [Act.put, List.setIfInBounds_toArray, List.set_cons_zero, List.set_cons_succ]
    have hOld := hHeld
    clear hHeld
    refine wpAnyH_ready (rs := [3, 4]) (by kernel_rfl) (by simp) ?_
    refine AllReadyH.cons (o := ?oA_6) ?eA_6 (fun K hK => ?_) (AllReadyH.cons (o := ?pA_6) ?fA_6 (fun K hK => ?_) AllReadyH.nil)
    case eA_6 => simp only [List.getElem?_toArray, List.getElem?_cons_succ, List.getElem?_cons_zero]; rfl
    case fA_6 => simp only [List.getElem?_toArray, List.getElem?_cons_succ, List.getElem?_cons_zero]; rfl
    · (refine step_append_new (by rfl) _ F (.slice la f.least.length lc) f.least (.tmp 3) (.tmp 5) (by rfl) (by rfl) (by rfl) (HL1.out.below (by repeat (first | assumption | exact Below.refl _ _ | with_reducible refine below_drew ?_ | with_reducible refine below_al ?_ _))) h1 ?_; intro v1 x1 hv1 hbk1; have hB1 : Below w1.heap.size w1 x1 := below_chain (by repeat (first | assumption | exact Below.refl _ _ | with_reducible refine below_drew ?_ | with_reducible refine below_al ?_ _)) hbk1; have hv1 := hv1.mono (F' := fun k => w1.heap.size ≤ k) fun k _ hk => Nat.le_trans (Below.size (B := w1.heap.size) (by repeat (first | assumption | exact Below.refl _ _ | with_reducible refine below_drew ?_ | with_reducible refine below_al ?_ _))) hk; obtain ⟨q1, n1, rfl⟩ := hv1.isSlice)
      try go_wp2_with fail
      refine hK.out _ _ (HKP.out _ (by repeat (first | assumption | exact Below.refl _ _ | with_reducible refine below_drew ?_ | with_reducible refine below_al ?_ _))) (fun hHeld => ?_)
      clear hK hOld
      try simp only [Act.put, List.setIfInBounds_toArray, List.set_cons_zero, List.set_cons_succ]
      refine wpAnyH_take (i := 8) (oi := ?oA_7_8) (v := ?vA_7_8) ?eA_7_8 (by kernel_rfl) (by kernel_rfl) (by kernel_rfl) ?qA_7_8 (Or.inl ⟨?wA_7_8, ?yA_7_8⟩) (by assumption) ?rA_7_8
      case eA_7_8 => simp only [List.getElem?_toArray, List.getElem?_cons_succ, List.getElem?_cons_zero]; rfl
      case wA_7_8 => rfl
      case qA_7_8 => exact fun _ _ _ h => h
      case yA_7_8 => (intro w hSw; (try dsimp only at hSw); go_simp; try with_reducible rfl)
      try simp only [Act.put, List.setIfInBounds_toArray, List.set_cons_zero, List.set_cons_succ]
      have hOld := hHeld
      clear hHeld
      refine wpAnyH_ready (rs := [4]) (by kernel_rfl) (by simp) ?_
      refine AllReadyH.cons (o := ?oA_8_4) ?eA_8_4 (fun K hK => ?_) AllReadyH.nil
      case eA_8_4 => simp only [List.getElem?_toArray, List.getElem?_cons_succ, List.getElem?_cons_zero]; rfl
      go_simp
      skip
      try go_wp2_with fail
      refine hK.out _ _ (HKP.out _ (by repeat (first | assumption | exact Below.refl _ _ | with_reducible refine below_drew ?_ | with_reducible refine below_al ?_ _))) (fun hHeld => ?_)
      clear hK hOld
      try simp only [Act.put, List.setIfInBounds_toArray, List.set_cons_zero, List.set_cons_succ]
      have hOld := hHeld
      clear hHeld
      refine wpAnyH_ready (rs := [7]) (by kernel_rfl) (by simp) ?_
      refine AllReadyH.cons (o := ?oA_9_7) ?eA_9_7 (fun K hK => ?_) AllReadyH.nil
      case eA_9_7 => simp only [List.getElem?_toArray, List.getElem?_cons_succ, List.getElem?_cons_zero]; rfl
      (refine step_append_new (by rfl) _ G (.slice ma f.most.length mc) f.most (.tmp 7) (.tmp 9) (by rfl) (by rfl) (by rfl) (HM1.out.below (by repeat (first | assumption | exact Below.refl _ _ | with_reducible refine below_drew ?_ | with_reducible refine below_al ?_ _))) h2 ?_; intro v2 x2 hv2 hbk2; have hB2 : Below w1.heap.size w1 x2 := below_chain (by repeat (first | assumption | exact Below.refl _ _ | with_reducible refine below_drew ?_ | with_reducible refine below_al ?_ _)) hbk2; have hC2 : Below x1.heap.size x1 x2 := below_chain (by repeat (first | assumption | exact Below.refl _ _ | with_reducible refine below_drew ?_ | with_reducible refine below_al ?_ _)) hbk2; have hv2 := hv2.mono (F' := fun k => w1.heap.size ≤ k) fun k _ hk => Nat.le_trans (Below.size (B := w1.heap.size) (by repeat (first | assumption | exact Below.refl _ _ | with_reducible refine below_drew ?_ | with_reducible refine below_al ?_ _))) hk; obtain ⟨q2, n2, rfl⟩ := hv2.isSlice)
      try go_wp2_with fail
      refine hK.out _ _ (HKP.out _ (by repeat (first | assumption | exact Below.refl _ _ | with_reducible refine below_drew ?_ | with_reducible refine below_al ?_ _))) (fun hHeld => ?_)
      clear hK hOld
      try simp only [Act.put, List.setIfInBounds_toArray, List.set_cons_zero, List.set_cons_succ]
      refine wpAnyH_done (by kernel_rfl) ?_ _
      have HF2 := Lib.hid (HF1.out.below hB2 HF1.out.lt)
      have HZ2 := Lib.hid (HZ1.out.below hB2 HZ1.out.lt)
      have s2 : x2.cell? ⟨w.heap.size, 2, none⟩ = some (.slice la f.least.length lc) := HF2.out.cell rfl
      have s3 : x2.cell? ⟨w.heap.size, 3, none⟩ = some (.slice ma f.most.length mc) := HF2.out.cell rfl
      have f2 := HF2.out.free 2
      have f3 := HF2.out.free 3
      refine thenLast_of fun K1 hK1 => ?_
      go_wp2_with fail
      refine hK1.out _ _ ?_
      refine thenLast_of fun K2 hK2 => ?_
      go_wp2_with fail
      refine hK2.out _ _ ?_
      refine thenLast_of fun K3 hK3 => ?_
      go_wp2_with fail
      refine hK3.out _ _ ?_
      obtain ⟨h5a, h5b, h5c, h5d, h5e⟩ := own_fin HF2.out HZ2.out HZ1.out.lt HW1.out hB2 hC2 hv1 hv2
      obtain ⟨w5, hw5⟩ : ∃ y, ((x2.setCell ⟨w.heap.size, 2, none⟩ (.slice q1 f.least.length n1)).setCell ⟨w.heap.size, 3, none⟩ (.slice q2 f.most.length n2)) = y := ⟨_, rfl⟩
      rw [hw5] at h5a h5b h5c h5d h5e ⊢
      have HP := Lib.hid (own_end h5b h5c h5d h5e)
      obtain ⟨d0, d1, d2, d3, d4, d5⟩ := C6.blk h5a
      have e0 := h5b.free 0
      have e1 := h5b.free 1
      have e2 := h5b.free 2
      have e3 := h5b.free 3
      have e4 := h5b.free 4
      have e5 := h5b.free 5
      have z0 : w5.cell? ⟨w.heap.size + 1, 0, none⟩ = some (.int .u64 0) := h5b.cell rfl
      have z1 : w5.cell? ⟨w.heap.size + 1, 1, none⟩ = some (.int .i64 0) := h5b.cell rfl
      have z2 : w5.cell? ⟨w.heap.size + 1, 2, none⟩ = some (.slice none 0 0) := h5b.cell rfl
      have z3 : w5.cell? ⟨w.heap.size + 1, 3, none⟩ = some (.slice none 0 0) := h5b.cell rfl
      have z4 : w5.cell? ⟨w.heap.size + 1, 4, none⟩ = some (.int .i64 0) := h5b.cell rfl
      have z5 : w5.cell? ⟨w.heap.size + 1, 5, none⟩ = some (.int .u64 0) := h5b.cell rfl
      clear hw5 h5a h5b h5c h5d h5e s2 s3 f2 f3
      go_wp2_with fail
      refine bodyPost_ret (results_cell1 (p := 2) rfl _ _ (w.heap.size + 1) 42 (filCells f (.slice q1 f.least.length n1) (.slice q2 f.most.length n2)).toArray _ rfl HP.out.1 Try.underlying42 rfl (by kernel_rfl)) rfl ?_
      exact ⟨_, _, rfl, HP.out.2.1, HP.out.2.2.1, HP.out.2.2.2⟩
    · go_simp
      skip
      try go_wp2_with fail
      refine hK.out _ _ (HKP.out _ (by repeat (first | assumption | exact Below.refl _ _ | with_reducible refine below_drew ?_ | with_reducible refine below_al ?_ _))) (fun hHeld => ?_)
      clear hK hOld
      try simp only [Act.put, List.setIfInBounds_toArray, List.set_cons_zero, List.set_cons_succ]
      have hOld := hHeld
      clear hHeld
      refine wpAnyH_ready (rs := [3]) (by kernel_rfl) (by simp) ?_
      refine AllReadyH.cons (o := ?oA_10_3) ?eA_10_3 (fun K hK => ?_) AllReadyH.nil
      case eA_10_3 => simp only [List.getElem?_toArray, List.getElem?_cons_succ, List.getElem?_cons_zero]; rfl
      (refine step_append_new (by rfl) _ F (.slice la f.least.length lc) f.least (.tmp 3) (.tmp 5) (by rfl) (by rfl) (by rfl) (HL1.out.below (by repeat (first | assumption | exact Below.refl _ _ | with_reducible refine below_drew ?_ | with_reducible refine below_al ?_ _))) h1 ?_; intro v1 x1 hv1 hbk1; have hB1 : Below w1.heap.size w1 x1 := below_chain (by repeat (first | assumption | exact Below.refl _ _ | with_reducible refine below_drew ?_ | with_reducible refine below_al ?_ _)) hbk1; have hv1 := hv1.mono (F' := fun k => w1.heap.size ≤ k) fun k _ hk => Nat.le_trans (Below.size (B := w1.heap.size) (by repeat (first | assumption | exact Below.refl _ _ | with_reducible refine below_drew ?_ | with_reducible refine below_al ?_ _))) hk; obtain ⟨q1, n1, rfl⟩ := hv1.isSlice)
      try go_wp2_with fail
      refine hK.out _ _ (HKP.out _ (by repeat (first | assumption | exact Below.refl _ _ | with_reducible refine below_drew ?_ | with_reducible refine below_al ?_ _))) (fun hHeld => ?_)
      clear hK hOld
      try simp only [Act.put, List.setIfInBounds_toArray, List.set_cons_zero, List.set_cons_succ]
      refine wpAnyH_take (i := 8) (oi := ?oA_11_8) (v := ?vA_11_8) ?eA_11_8 (by kernel_rfl) (by kernel_rfl) (by kernel_rfl) ?qA_11_8 (Or.inl ⟨?wA_11_8, ?yA_11_8⟩) (by assumption) ?rA_11_8
      case eA_11_8 => simp only [List.getElem?_toArray, List.getElem?_cons_succ, List.getElem?_cons_zero]; rfl
      case wA_11_8 => rfl
      case qA_11_8 => exact fun _ _ _ h => h
      case yA_11_8 => (intro w hSw; (try dsimp only at hSw); go_simp; try with_reducible rfl)
      try simp only [Act.put, List.setIfInBounds_toArray, List.set_cons_zero, List.set_cons_succ]
      have hOld := hHeld
      clear hHeld
      refine wpAnyH_ready (rs := [7]) (by kernel_rfl) (by simp) ?_
      refine AllReadyH.cons (o := ?oA_12_7) ?eA_12_7 (fun K hK => ?_) AllReadyH.nil
      case eA_12_7 => simp only [List.getElem?_toArray, List.getElem?_cons_succ, List.getElem?_cons_zero]; rfl
      (refine step_append_new (by rfl) _ G (.slice ma f.most.length mc) f.most (.tmp 7) (.tmp 9) (by rfl) (by rfl) (by rfl) (HM1.out.below (by repeat (first | assumption | exact Below.refl _ _ | with_reducible refine below_drew ?_ | with_reducible refine below_al ?_ _))) h2 ?_; intro v2 x2 hv2 hbk2; have hB2 : Below w1.heap.size w1 x2 := below_chain (by repeat (first | assumption | exact Below.refl _ _ | with_reducible refine below_drew ?_ | with_reducible refine below_al ?_ _)) hbk2; have hC2 : Below x1.heap.size x1 x2 := below_chain (by repeat (first | assumption | exact Below.refl _ _ | with_reducible refine below_drew ?_ | with_reducible refine below_al ?_ _)) hbk2; have hv2 := hv2.mono (F' := fun k => w1.heap.size ≤ k) fun k _ hk => Nat.le_trans (Below.size (B := w1.heap.size) (by repeat (first | assumption | exact Below.refl _ _ | with_reducible refine below_drew ?_ | with_reducible refine below_al ?_ _))) hk; obtain ⟨q2, n2, rfl⟩ := hv2.isSlice)
      try go_wp2_with fail
      refine hK.out _ _ (HKP.out _ (by repeat (first | assumption | exact Below.refl _ _ | with_reducible refine below_drew ?_ | with_reducible refine below_al ?_ _))) (fun hHeld => ?_)
      clear hK hOld
      try simp only [Act.put, List.setIfInBounds_toArray, List.set_cons_zero, List.set_cons_succ]
      refine wpAnyH_done (by kernel_rfl) ?_ _
      have HF2 := Lib.hid (HF1.out.below hB2 HF1.out.lt)
      have HZ2 := Lib.hid (HZ1.out.below hB2 HZ1.out.lt)
      have s2 : x2.cell? ⟨w.heap.size, 2, none⟩ = some (.slice la f.least.length lc) := HF2.out.cell rfl
      have s3 : x2.cell? ⟨w.heap.size, 3, none⟩ = some (.slice ma f.most.length mc) := HF2.out.cell rfl
      have f2 := HF2.out.free 2
      have f3 := HF2.out.free 3
      refine thenLast_of fun K1 hK1 => ?_
      go_wp2_with fail
      refine hK1.out _ _ ?_
      refine thenLast_of fun K2 hK2 => ?_
      go_wp2_with fail
      refine hK2.out _ _ ?_
      refine thenLast_of fun K3 hK3 => ?_
      go_wp2_with fail
      refine hK3.out _ _ ?_
      obtain ⟨h5a, h5b, h5c, h5d, h5e⟩ := own_fin HF2.out HZ2.out HZ1.out.lt HW1.out hB2 hC2 hv1 hv2
      obtain ⟨w5, hw5⟩ : ∃ y, ((x2.setCell ⟨w.heap.size, 2, none⟩ (.slice q1 f.least.length n1)).setCell ⟨w.heap.size, 3, none⟩ (.slice q2 f.most.length n2)) = y := ⟨_, rfl⟩
      rw [hw5] at h5a h5b h5c h5d h5e ⊢
      have HP := Lib.hid (own_end h5b h5c h5d h5e)
      obtain ⟨d0, d1, d2, d3, d4, d5⟩ := C6.blk h5a
      have e0 := h5b.free 0
      have e1 := h5b.free 1
      have e2 := h5b.free 2
      have e3 := h5b.free 3
      have e4 := h5b.free 4
      have e5 := h5b.free 5
      have z0 : w5.cell? ⟨w.heap.size + 1, 0, none⟩ = some (.int .u64 0) := h5b.cell rfl
      have z1 : w5.cell? ⟨w.heap.size + 1, 1, none⟩ = some (.int .i64 0) := h5b.cell rfl
      have z2 : w5.cell? ⟨w.heap.size + 1, 2, none⟩ = some (.slice none 0 0) := h5b.cell rfl
      have z3 : w5.cell? ⟨w.heap.size + 1, 3, none⟩ = some (.slice none 0 0) := h5b.cell rfl
      have z4 : w5.cell? ⟨w.heap.size + 1, 4, none⟩ = some (.int .i64 0) := h5b.cell rfl
      have z5 : w5.cell? ⟨w.heap.size + 1, 5, none⟩ = some (.int .u64 0) := h5b.cell rfl
      clear hw5 h5a h5b h5c h5d h5e s2 s3 f2 f3
      go_wp2_with fail
      refine bodyPost_ret (results_cell1 (p := 2) rfl _ _ (w.heap.size + 1) 42 (filCells f (.slice q1 f.least.length n1) (.slice q2 f.most.length n2)).toArray _ rfl HP.out.1 Try.underlying42 rfl (by kernel_rfl)) rfl ?_
      exact ⟨_, _, rfl, HP.out.2.1, HP.out.2.2.1, HP.out.2.2.2⟩
  · go_simp
    skip
    try go_wp2_with fail
    refine hK.out _ _ (HKP.out _ (by repeat (first | assumption | exact Below.refl _ _ | with_reducible refine below_drew ?_ | with_reducible refine below_al ?_ _))) (fun hHeld => ?_)
    clear hK hOld
    try simp only [Act.put, List.setIfInBounds_toArray, List.set_cons_zero, List.set_cons_succ]
    have hOld := hHeld
    clear hHeld
    refine wpAnyH_ready (rs := [0]) (by kernel_rfl) (by simp) ?_
    refine AllReadyH.cons (o := ?oA_13_0) ?eA_13_0 (fun K hK => ?_) AllReadyH.nil
    case eA_13_0 => simp only [List.getElem?_toArray, List.getElem?_cons_zero]; rfl
    go_simp
    skip
    try go_wp2_with fail
    refine hK.out _ _ (HKP.out _ (by repeat (first | assumption | exact Below.refl _ _ | with_reducible refine below_drew ?_ | with_reducible refine below_al ?_ _))) (fun hHeld => ?_)
    clear hK hOld
    try simp only [Act.put, List.setIfInBounds_toArray, List.set_cons_zero, List.set_cons_succ]
    have hOld := hHeld
    clear hHeld
    refine wpAnyH_ready (rs := [3]) (by kernel_rfl) (by simp) ?_
    refine AllReadyH.cons (o := ?oA_14_3) ?eA_14_3 (fun K hK => ?_) AllReadyH.nil
    case eA_14_3 => simp only [List.getElem?_toArray, List.getElem?_cons_succ, List.getElem?_cons_zero]; rfl
    (refine step_append_new (by rfl) _ F (.slice la f.least.length lc) f.least (.tmp 3) (.tmp 5) (by rfl) (by rfl) (by rfl) (HL1.out.below (by repeat (first | assumption | exact Below.refl _ _ | with_reducible refine below_drew ?_ | with_reducible refine below_al ?_ _))) h1 ?_; intro v1 x1 hv1 hbk1; have hB1 : Below w1.heap.size w1 x1 := below_chain (by repeat (first | assumption | exact Below.refl _ _ | with_reducible refine below_drew ?_ | with_reducible refine below_al ?_ _)) hbk1; have hv1 := hv1.mono (F' := fun k => w1.heap.size ≤ k) fun k _ hk => Nat.le_trans (Below.size (B := w1.heap.size) (by repeat (first | assumption | exact Below.refl _ _ | with_reducible refine below_drew ?_ | with_reducible refine below_al ?_ _))) hk; obtain ⟨q1, n1, rfl⟩ := hv1.isSlice)
    try go_wp2_with fail
    refine hK.out _ _ (HKP.out _ (by repeat (first | assumption | exact Below.refl _ _ | with_reducible refine below_drew ?_ | with_reducible refine below_al ?_ _))) (fun hHeld => ?_)
    clear hK hOld
    try simp only [Act.put, List.setIfInBounds_toArray, List.set_cons_zero, List.set_cons_succ]
    refine wpAnyH_take (i := 8) (oi := ?oA_15_8) (v := ?vA_15_8) ?eA_15_8 (by kernel_rfl) (by kernel_rfl) (by kernel_rfl) ?qA_15_8 (Or.inl ⟨?wA_15_8, ?yA_15_8⟩) (by assumption) ?rA_15_8
    case eA_15_8 => simp only [List.getElem?_toArray, List.getElem?_cons_succ, List.getElem?_cons_zero]; rfl
    case wA_15_8 => rfl
    case qA_15_8 => exact fun _ _ _ h => h
    case yA_15_8 => (intro w hSw; (try dsimp only at hSw); go_simp; try with_reducible rfl)
    try simp only [Act.put, List.setIfInBounds_toArray, List.set_cons_zero, List.set_cons_succ]
    have hOld := hHeld
    clear hHeld
    refine wpAnyH_ready (rs := [7]) (by kernel_rfl) (by simp) ?_
    refine AllReadyH.cons (o := ?oA_16_7) ?eA_16_7 (fun K hK => ?_) AllReadyH.nil
    case eA_16_7 => simp only [List.getElem?_toArray, List.getElem?_cons_succ, List.getElem?_cons_zero]; rfl
    (refine step_append_new (by rfl) _ G (.slice ma f.most.length mc) f.most (.tmp 7) (.tmp 9) (by rfl) (by rfl) (by rfl) (HM1.out.below (by repeat (first | assumption | exact Below.refl _ _ | with_reducible refine below_drew ?_ | with_reducible refine below_al ?_ _))) h2 ?_; intro v2 x2 hv2 hbk2; have hB2 : Below w1.heap.size w1 x2 := below_chain (by repeat (first | assumption | exact Below.refl _ _ | with_reducible refine below_drew ?_ | with_reducible refine below_al ?_ _)) hbk2; have hC2 : Below x1.heap.size x1 x2 := below_chain (by repeat (first | assumption | exact Below.refl _ _ | with_reducible refine below_drew ?_ | with_reducible refine below_al ?_ _)) hbk2; have hv2 := hv2.mono (F' := fun k => w1.heap.size ≤ k) fun k _ hk => Nat.le_trans (Below.size (B := w1.heap.size) (by repeat (first | assumption | exact Below.refl _ _ | with_reducible refine below_drew ?_ | with_reducible refine below_al ?_ _))) hk; obtain ⟨q2, n2, rfl⟩ := hv2.isSlice)
    try go_wp2_with fail
    refine hK.out _ _ (HKP.out _ (by repeat (first | assumption | exact Below.refl _ _ | with_reducible refine below_drew ?_ | with_reducible refine below_al ?_ _))) (fun hHeld => ?_)
    clear hK hOld
    try simp only [Act.put, List.setIfInBounds_toArray, List.set_cons_zero, List.set_cons_succ]
    refine wpAnyH_done (by kernel_rfl) ?_ _
    have HF2 := Lib.hid (HF1.out.below hB2 HF1.out.lt)
    have HZ2 := Lib.hid (HZ1.out.below hB2 HZ1.out.lt)
    have s2 : x2.cell? ⟨w.heap.size, 2, none⟩ = some (.slice la f.least.length lc) := HF2.out.cell rfl
    have s3 : x2.cell? ⟨w.heap.size, 3, none⟩ = some (.slice ma f.most.length mc) := HF2.out.cell rfl
    have f2 := HF2.out.free 2
    have f3 := HF2.out.free 3
    refine thenLast_of fun K1 hK1 => ?_
    go_wp2_with fail
    refine hK1.out _ _ ?_
    refine thenLast_of fun K2 hK2 => ?_
    go_wp2_with fail
    refine hK2.out _ _ ?_
    refine thenLast_of fun K3 hK3 => ?_
    go_wp2_with fail
    refine hK3.out _ _ ?_
    obtain ⟨h5a, h5b, h5c, h5d, h5e⟩ := own_fin HF2.out HZ2.out HZ1.out.lt HW1.out hB2 hC2 hv1 hv2
    obtain ⟨w5, hw5⟩ : ∃ y, ((x2.setCell ⟨w.heap.size, 2, none⟩ (.slice q1 f.least.length n1)).setCell ⟨w.heap.size, 3, none⟩ (.slice q2 f.most.length n2)) = y := ⟨_, rfl⟩
    rw [hw5] at h5a h5b h5c h5d h5e ⊢
    have HP := Lib.hid (own_end h5b h5c h5d h5e)
    obtain ⟨d0, d1, d2, d3, d4, d5⟩ := C6.blk h5a
    have e0 := h5b.free 0
    have e1 := h5b.free 1
    have e2 := h5b.free 2
    have e3 := h5b.free 3
    have e4 := h5b.free 4
    have e5 := h5b.free 5
    have z0 : w5.cell? ⟨w.heap.size + 1, 0, none⟩ = some (.int .u64 0) := h5b.cell rfl
    have z1 : w5.cell? ⟨w.heap.size + 1, 1, none⟩ = some (.int .i64 0) := h5b.cell rfl
    have z2 : w5.cell? ⟨w.heap.size + 1, 2, none⟩ = some (.slice none 0 0) := h5b.cell rfl
    have z3 : w5.cell? ⟨w.heap.size + 1, 3, none⟩ = some (.slice none 0 0) := h5b.cell rfl
    have z4 : w5.cell? ⟨w.heap.size + 1, 4, none⟩ = some (.int .i64 0) := h5b.cell rfl
    have z5 : w5.cell? ⟨w.heap.size + 1, 5, none⟩ = some (.int .u64 0) := h5b.cell rfl
    clear hw5 h5a h5b h5c h5d h5e s2 s3 f2 f3
    go_wp2_with fail
    refine bodyPost_ret (results_cell1 (p := 2) rfl _ _ (w.heap.size + 1) 42 (filCells f (.slice q1 f.least.length n1) (.slice q2 f.most.length n2)).toArray _ rfl HP.out.1 Try.underlying42 rfl (by kernel_rfl)) rfl ?_
    exact ⟨_, _, rfl, HP.out.2.1, HP.out.2.2.1, HP.out.2.2.2⟩
end Go.Proofs.Ytkcohhldmhdcfaa

namespace Go.Proofs.Ytkcohhldmhdcfaa
open Go.RowKit

theorem lapB_bless (ls ms : List UInt8) (f : Fil) : lapB ls ms f = (!Op.bytesLess f.most ls && (decide (ms.length = 0) || !Op.bytesLess ms f.least)) := by
  rw [rbef_bcmp, rbef_bcmp, isCmp_bcmp.anti f.least ms]
  unfold lapB
  rw [Bool.eq_iff_iff]
  simp only [Bool.and_eq_true, Bool.or_eq_true, Bool.not_eq_true', decide_eq_true_eq, decide_eq_false_iff_not]
  constructor
  · rintro ⟨h1, h2⟩
    exact ⟨by omega, h2.imp id fun h => by omega⟩
  · rintro ⟨h1, h2⟩
    exact ⟨by omega, h2.imp id fun h => by omega⟩
set_option maxRecDepth 100000 in
set_option maxHeartbeats 4000000 in
theorem roverlap_any (F L M : Nat → Prop) (v : Ver) (lv : Value) (lev : Int) (least most : List UInt8) (ql qm : Value) (w : World) (h : Rw (rowK filK) F w lv v.levels) (hw : v.wf) (hfew : cntTo v.levels v.levels.length ≤ 100) (hql : Bytes L w ql least) (hqm : Bytes M w qm most) :
    Calls Try.prog 45 #[.agg (verCells v lv).toArray, .int .i64 lev, ql, qm] w fun e w' => ∃ r, e = .returned r ∧ Rw filK (fun k => w.heap.size ≤ k) w' r (overB v lev least most) ∧ Below w.heap.size w w' := by
  obtain ⟨xa, ca, rfl⟩ := h.isSlice
  obtain ⟨la, lc, rfl⟩ := hql.isSlice
  obtain ⟨ma, mc, rfl⟩ := hqm.isSlice
  have HA : Hid (Rw (rowK filK) (· < w.heap.size) w (.slice xa v.levels.length ca) v.levels) := h.mono fun k hk _ => hk
  have HCK := Lib.hid (fun w' (hb : Below w.heap.size w w') => rcheck_any F v _ w' (h.below hb) hw (by omega))
  have HQL := Lib.hid hql
  have HQM := Lib.hid hqm
  clear h hql hqm hfew
  obtain ⟨m, hm1⟩ : ∃ m, v.levels.length = m := ⟨_, rfl⟩
  have HM := Lib.hid hm1
  rw [hm1] at HA HCK
  unfold verCells at *
  rw [hm1]
  clear hm1
  go_enter Try.func45, Try.ntmps45
  go_upto_region 1 with fail
  refine wp_gen fun w1 hw1 => ?_
  have HX1 : Hid (Blk w1 w.heap.size (verCells v (.slice xa m ca)).toArray 25) := by rw [hw1]; exact Blk.at_new rfl rfl
  have HW1 : Hid (Below w.heap.size w w1) := by rw [hw1]; exact (Below.refl _ _).alloc (Nat.le_refl _) _
  clear hw1
  have x0 : w1.cell? ⟨w.heap.size, 0, none⟩ = some (.slice xa m ca) := HX1.out.cell rfl
  have x1 : w1.cell? ⟨w.heap.size, 1, none⟩ = some (.int .u64 v.next) := HX1.out.cell rfl
  have x2 : w1.cell? ⟨w.heap.size, 2, none⟩ = some (.int .u64 v.seq) := HX1.out.cell rfl
  have x3 : w1.cell? ⟨w.heap.size, 3, none⟩ = some (.int .u64 v.log) := HX1.out.cell rfl
  go_wp2_with fail
  clear x0 x1 x2 x3
  refine Calls.mono (HCK.out _ HW1.out) ?_
  rintro _ w2 ⟨rfl, hb⟩
  have HX2 : Hid (Blk w2 w.heap.size (verCells v (.slice xa m ca)).toArray 25) := HX1.out.below hb HX1.out.lt
  have HW2 : Hid (Below w.heap.size w w2) := HW1.out.trans (hb.mono HW1.out.size)
  clear hb HX1 HW1
  obtain ⟨ck, hck⟩ : ∃ c, chkW v = c := ⟨_, rfl⟩
  have HK := Lib.hid hck
  rw [hck]
  clear hck
  have hnil : ∀ (hn : ¬ (chkW v = 0 ∧ 0 ≤ lev ∧ lev < v.levels.length)), Rw filK (fun k => w.heap.size ≤ k) w2 (.slice none 0 0) (overB v lev least most) := fun hn => by
    unfold overB
    rw [if_neg hn]
    exact (ROwnF.nil filK (fun _ => False) w.heap.size 0 w2).rows.mono fun _ _ hk => hk.elim (fun e => by cases e) fun e => e.1.elim
  by_cases hc0 : ck = 0
  case neg =>
    have g0 : (ck == 0) = false := by simpa using hc0
    have g1 : (ck != 0) = true := by simpa using hc0
    have HF := Lib.hid (hnil fun e => hc0 (by rw [← HK.out]; exact e.1))
    clear hc0 hnil
    go_wp2_with fail
    go_ret
    exact ⟨_, rfl, HF.out, HW2.out⟩
  subst hc0
  have hm5 : m = 5 := by rw [← HM.out]; exact (good_small HK.out).1
  subst hm5
  by_cases hl0 : 0 ≤ lev
  case neg =>
    have g0 : lev < 0 := by omega
    have HF := Lib.hid (hnil fun e => hl0 e.2.1)
    clear hl0 hnil
    go_wp2_with fail
    go_ret
    exact ⟨_, rfl, HF.out, HW2.out⟩
  by_cases hl1 : lev < 5
  case neg =>
    have g0 : (5 : Int) ≤ lev := by omega
    have HF := Lib.hid (hnil fun e => hl1 (by have := e.2.2; rw [HM.out] at this; exact this))
    clear hl1 hnil
    go_wp2_with fail
    go_ret
    exact ⟨_, rfl, HF.out, HW2.out⟩
  clear hnil
  obtain ⟨i, rfl⟩ : ∃ i : Nat, lev = (i : Int) := ⟨lev.toNat, by omega⟩
  have t1 : (i : Int) < 5 := by omega
  have t2 : 0 ≤ (i : Int) := by omega
  have t3 : ¬ (i : Int) < 0 := by omega
  have t4 : ¬ (5 : Int) ≤ (i : Int) := by omega
  have hil : i < v.levels.length := by rw [HM.out]; omega
  have HRES : Hid (overB v (i : Int) least most = (lat v.levels i).filter (lapB least most)) := by
    show _ = _
    unfold overB
    rw [if_pos ⟨HK.out, by omega, by rw [HM.out]; omega⟩]
    rfl
  have HLL : Hid ((lat v.levels i).length ≤ 10000) := (good_small HK.out).2.1 i hil
  have HFK : Hid (∀ f ∈ lat v.levels i, f.least.length ≤ 4096 ∧ f.most.length ≤ 4096) := (good_small HK.out).2.2 i hil
  obtain ⟨bl, ol, capl, el, hbl, hbl2, hcl⟩ := levs_at HA.out (by rw [HM.out]; omega)
  obtain ⟨u, hu, hcu⟩ := hcl i hil
  rw [HM.out] at el
  injection el with e1 e2 e3
  subst e1 e3
  obtain ⟨ua, uc, rfl⟩ := hu.isSlice
  have HU := Lib.hid (hu.below HW2.out)
  have HCU : Hid (w2.cell? ⟨bl, ol + i, none⟩ = some (.slice ua (lat v.levels i).length uc)) := (HW2.out.cell (p := ⟨bl, ol + i, none⟩) hbl2).trans hcu
  have HBL : Hid (bl < w2.heap.size) := Nat.lt_of_lt_of_le hbl2 HW2.out.size
  have HL2 := Lib.hid (HQL.out.below HW2.out)
  have HM2 := Lib.hid (HQM.out.below HW2.out)
  clear e2 hcl hu hcu hl0 hl1 hil HQL HQM HA HCK
  obtain ⟨l, hl⟩ : ∃ l, lat v.levels i = l := ⟨_, rfl⟩
  rw [hl] at HRES HLL HFK HU HCU
  obtain ⟨n, hn⟩ : ∃ n, l.length = n := ⟨_, rfl⟩
  have HN := Lib.hid hn
  rw [hn] at HLL HU HCU
  clear hl hn
  go_wp2_with fail
  go_loopw [9, 10] (fun ov kv wr => ∃ (k : Nat) (u : Value), u = ov ∧ kv = .int .i64 (k : Int) ∧ k ≤ n ∧ Hid (ROwnF filK (fun j => w2.heap.size ≤ j) w2.heap.size 42 wr ov ((l.take k).filter (lapB least most))) ∧ Hid (Below w2.heap.size w2 wr)) (fun _ kv _ => n - (intOf kv).toNat)
  case atStart => exact ⟨0, _, rfl, rfl, by omega, ROwnF.nil _ _ _ _ _, Below.refl _ _⟩
  case round =>
    obtain ⟨k, u, rfl, rfl, hk, HO, HB⟩ := hrel
    have x0 : wr.cell? ⟨w.heap.size, 0, none⟩ = some (.slice (some ⟨bl, ol, none⟩) 5 ca) := (HX2.out.below HB.out HX2.out.lt).cell rfl
    have c0 : wr.cell? ⟨bl, ol + i, none⟩ = some (.slice ua n uc) := (HB.out.cell (p := ⟨bl, ol + i, none⟩) HBL.out).trans HCU.out
    by_cases hkn : k < n
    · have u0 : n ≤ 10000 := HLL.out
      have u1 : (k : Int) < (n : Int) := by omega
      have u2 : 0 ≤ (k : Int) := by omega
      have hkl : k < l.length := by rw [HN.out]; exact hkn
      obtain ⟨bf, of, rfl, fa, fc, ga, gc, hp1, hp2, hp6⟩ := file_at (HU.out.below HB.out) HN.out hkn
      have HYES := Lib.hid (fun h => filter_take_yes (p := lapB least most) hkl h)
      have HNO := Lib.hid (fun h => filter_take_no (p := lapB least most) hkl h)
      have HKL := Lib.hid (HFK.out _ (fat_mem hkl))
      have HWFF := Lib.hid (HU.out.fwf _ (fat_mem hkl))
      obtain ⟨f, hf⟩ : ∃ f, fat l k = f := ⟨_, rfl⟩
      rw [hf] at hp1 hp2 hp6 HYES HNO HKL HWFF
      have HV1 := Lib.hid hp1
      have HV2 := Lib.hid hp2
      have HLB := Lib.hid (lapB_bless least most f)
      obtain ⟨d0, d1, d2, d3, d4, d5⟩ := hp6
      clear hp1 hp2 hf hkl
      go_upto_region 8 with fail
      clear d0 d1 d2 d3 d4 d5 x0 c0
      refine wp_gen fun w4 hw4 => ?_
      have HE4 : Hid (Blk w4 wr.heap.size (filCells f (.slice fa f.least.length fc) (.slice ga f.most.length gc)).toArray 42) := by rw [hw4]; exact Blk.at_new rfl rfl
      have HW4 : Hid (Below wr.heap.size wr w4) := by rw [hw4]; exact (Below.refl _ _).alloc (Nat.le_refl _) _
      clear hw4
      have HO4 := Lib.hid (HO.out.below HW4.out)
      have HB4 : Hid (Below w2.heap.size w2 w4) := HB.out.trans (HW4.out.mono HB.out.size)
      have HV14 := Lib.hid (HV1.out.below HW4.out)
      have HV24 := Lib.hid (HV2.out.below HW4.out)
      have HL4 := Lib.hid (HL2.out.below HB4.out)
      have HM4 := Lib.hid (HM2.out.below HB4.out)
      clear HO HB HW4 HV1 HV2
      generalize wr.heap.size = eb at *
      have c2 : w4.cell? ⟨eb, 2, none⟩ = some (.slice fa f.least.length fc) := HE4.out.cell rfl
      have c3 : w4.cell? ⟨eb, 3, none⟩ = some (.slice ga f.most.length gc) := HE4.out.cell rfl
      go_cut [57] from 41 to 58 (fun z wx => Hid (z = .bool (lapB least most f) ∧ Below w4.heap.size w4 wx))
      case first =>
        go_wp2_with fail
        refine Calls.mono (rbefore_any _ _ _ f.most _ least w4 HV24.out HL4.out) ?_
        rintro _ w5 ⟨rfl, hb⟩
        have HB5 := Lib.hid (below_drewN hb)
        have c2 : w5.cell? ⟨eb, 2, none⟩ = some (.slice fa f.least.length fc) := (HE4.out.below HB5.out HE4.out.lt).cell rfl
        clear hb c3
        cases hx : Op.bytesLess f.most least with
        | true =>
          have HR : Hid (lapB least most f = false) := by show _ = _; rw [HLB.out, hx]; rfl
          go_wp2_with fail
          go_meet
          exact ⟨by rw [HR.out], HB5.out⟩
        | false =>
          by_cases hz : most.length = 0
          · have HR : Hid (lapB least most f = true) := by show _ = _; rw [HLB.out, hx, decide_eq_true hz]; rfl
            have g0 : ((most.length : Int) == 0) = true := by simp [hz]
            clear hz
            go_wp2_with fail
            go_meet
            exact ⟨by rw [HR.out], HB5.out⟩
          · have g0 : ((most.length : Int) == 0) = false := by rw [beq_eq_false_iff_ne]; omega
            have HR : Hid (lapB least most f = !Op.bytesLess most f.least) := by show _ = _; rw [HLB.out, hx, decide_eq_false hz]; rfl
            go_wp2_with fail
            refine Calls.mono (rbefore_any _ _ _ most _ f.least w5 (HM4.out.below HB5.out) (HV14.out.below HB5.out)) ?_
            rintro _ w6 ⟨rfl, hb⟩
            have HB6 : Hid (Below w4.heap.size w4 w6) := HB5.out.trans ((below_drewN hb).mono HB5.out.size)
            clear hb
            go_wp2_with fail
            go_meet
            exact ⟨by rw [HR.out], HB6.out⟩
      case rest =>
        obtain rfl := hcut.out.1
        have HB5 : Hid (Below w4.heap.size w4 wc) := hcut.out.2
        have HE5 := Lib.hid (HE4.out.below HB5.out HE4.out.lt)
        have HO5 := Lib.hid (HO4.out.below HB5.out)
        have HV15 := Lib.hid (HV14.out.below HB5.out)
        have HV25 := Lib.hid (HV24.out.below HB5.out)
        have HW5 : Hid (Below w2.heap.size w2 wc) := HB4.out.trans (HB5.out.mono HB4.out.size)
        have HOL : Hid (((l.take k).filter (lapB least most)).length < 1000000) := by
          show _ < _
          have h1 := List.length_filter_le (lapB least most) (l.take k)
          rw [List.length_take] at h1
          omega
        clear hcut HE4 HO4 HV14 HV24 HB4 HB5 HL4 HM4 c2 c3 HLB
        obtain ⟨out, hout⟩ : ∃ o, (l.take k).filter (lapB least most) = o := ⟨_, rfl⟩
        rw [hout] at HO5 HYES HNO HOL
        clear hout
        obtain ⟨oa, oc, rfl⟩ := HO5.out.isSlice
        obtain ⟨r, hr⟩ : ∃ r, lapB least most f = r := ⟨_, rfl⟩
        have HR := Lib.hid hr
        rw [hr]
        clear hr
        cases r with
        | false =>
          have HN' := Lib.hid (HNO.out HR.out)
          go_wp2_with fail
          go_roundw
          · exact ⟨k + 1, _, rfl, by go_num, by omega, by rw [HN'.out]; exact HO5.out, HW5.out⟩
          · simp only [intOf]; omega
        | true =>
          have HY := Lib.hid (HYES.out HR.out)
          obtain ⟨d0, d1, d2, d3, d4, d5⟩ := C6.blk HE5.out
          go_wp2_with fail
          clear d0 d1 d2 d3 d4 d5
          refine Calls.mono (rown_any _ _ f _ _ wc HV15.out HV25.out (Nat.le_trans HKL.out.1 (by decide)) (Nat.le_trans HKL.out.2 (by decide))) ?_
          rintro _ w6 ⟨p1, p2, rfl, hp1, hp2, hb⟩
          have HO6 := Lib.hid (HO5.out.below hb)
          have HW6 : Hid (Below w2.heap.size w2 w6) := HW5.out.trans (hb.mono HW5.out.size)
          have HP1 := Lib.hid hp1
          have HP2 := Lib.hid hp2
          obtain ⟨pa, pc, rfl⟩ := hp1.isSlice
          obtain ⟨qa, qc, rfl⟩ := hp2.isSlice
          clear hp1 hp2 hb
          unfold filCells
          go_wp2_with (with_reducible refine pause_append ?_)
          refine list_gen fun w7 hw7 => ?_
          have HB7 : Hid (Below w6.heap.size w6 w7) := by rw [hw7]; exact (Below.refl _ _).alloc (Nat.le_refl _) _
          have HS7 : Hid (Blk w7 w6.heap.size (filCells f (.slice pa f.least.length pc) (.slice qa f.most.length qc)).toArray 42) := by rw [hw7]; exact Blk.at_new rfl rfl
          clear hw7
          have HO7 := Lib.hid (HO6.out.below HB7.out)
          have HOB : Hid (∀ j, (Value.slice oa out.length oc).ownBlock = some j → j < wc.heap.size) := fun j e => (HO5.out.lt j e).2
          have HW7 : Hid (Below w2.heap.size w2 w7) := HW6.out.trans (HB7.out.mono HW6.out.size)
          refine Pause.go (wpList_append_elF (K := filK) 33 42 _ 80 Try.underlying33 info_filO rfl _ w2.heap.size _ out w6.heap.size 42 _ f rfl _ _ rfl rfl rfl HO7.out HS7.out ⟨_, _, rfl, (HP1.out.below HB7.out).mono fun j hj hx => ⟨Nat.le_trans HW5.out.size hx, fun e0 => by have := HOB.out j e0; omega⟩, (HP2.out.below HB7.out).mono fun j hj hx => ⟨Nat.le_trans HW5.out.size hx, fun e0 => by have := HOB.out j e0; omega⟩, HWFF.out⟩ HOL.out (by decide) HW7.out.size ?_)
          intro v8 w8 hro hg
          have HO8 := Lib.hid hro
          have HB8 : Hid (Below w2.heap.size w2 w8) := HW7.out.trans (hg.below HW7.out.size fun j e0 => (HO7.out.lt j e0).1)
          clear hro hg HO7 HS7 HO6 HO5
          go_wp2_with fail
          go_roundw
          · exact ⟨k + 1, _, rfl, by go_num, by omega, by rw [HY.out]; exact HO8.out, HB8.out⟩
          · simp only [intOf]; omega
    · have u1 : ¬ (k : Int) < (n : Int) := by omega
      obtain rfl : k = n := by omega
      have HP : Hid (Rw filK (fun j => w.heap.size ≤ j) wr u (overB v (i : Int) least most)) := by
        have h1 := HO.out
        rw [show l.take k = l by rw [← HN.out, List.take_length], ← HRES.out] at h1
        exact h1.rows.mono fun j _ hj => hj.elim (fun e => Nat.le_trans HW2.out.size (h1.lt j e).1) fun hj => Nat.le_trans HW2.out.size hj.1
      have HWE : Hid (Below w.heap.size w wr) := HW2.out.trans (HB.out.mono HW2.out.size)
      clear HO
      go_wp2_with fail
      go_ret
      exact ⟨_, rfl, HP.out, HWE.out⟩
end Go.Proofs.Ytkcohhldmhdcfaa

namespace Go.Proofs.Ytkcohhldmhdcfaa
open Go.RowKit

theorem over_any {v : Ver} {least most : List UInt8} {i : Nat} (hi : i < v.levels.length) (hc : chkW v = 0) : (decide (0 < (overB v (i : Int) least most).length)) = (lat v.levels i).any (lapB least most) := by
  unfold overB
  rw [if_pos ⟨hc, by omega, by omega⟩, Int.toNat_natCast, Bool.eq_iff_iff, decide_eq_true_eq, List.length_pos_iff_exists_mem, List.any_eq_true]
  constructor
  · rintro ⟨f, hf⟩
    exact ⟨f, List.mem_filter.1 hf⟩
  · rintro ⟨f, hf⟩
    exact ⟨f, List.mem_filter.2 hf⟩
theorem over_bad {v : Ver} {least most : List UInt8} {lev : Int} (hc : chkW v ≠ 0) : overB v lev least most = [] := by
  unfold overB
  rw [if_neg fun e => hc e.1]

/-- What is left to be seen from a level on. -/
noncomputable def dFrom (v : Ver) (lev : Int) (least most : List UInt8) (q : Nat) : Bool := if chkW v = 0 ∧ 0 ≤ lev then clearFrom least most v.levels q else true
theorem dFrom_end {v : Ver} {lev : Int} {least most : List UInt8} {q : Nat} (hq : 5 ≤ q) : dFrom v lev least most q = true := by
  unfold dFrom
  split
  · rename_i h
    exact clearFrom_end _ _ _ (by rw [(good_small h.1).1]; exact hq)
  · rfl
theorem dFrom_start {v : Ver} {lev : Int} {least most : List UInt8} {q : Nat} (hq : (q : Int) = min 5 (max 0 lev) + 1) : deepB v lev least most = dFrom v lev least most q := by
  unfold deepB dFrom
  split
  · rename_i h
    by_cases h5 : lev ≤ 5
    · rw [show lev.toNat + 1 = q by omega]
    · rw [clearFrom_end _ _ _ (by rw [(good_small h.1).1]; omega), clearFrom_end _ _ _ (by rw [(good_small h.1).1]; omega)]
  · rfl
theorem dFrom_step {v : Ver} {lev : Int} {least most : List UInt8} {q : Nat} (hq : q < 5) (hl : 0 ≤ lev) : dFrom v lev least most q = (!decide (0 < (overB v (q : Int) least most).length) && dFrom v lev least most (q + 1)) := by
  unfold dFrom
  by_cases hc : chkW v = 0
  · have h5 := (good_small hc).1
    rw [if_pos ⟨hc, hl⟩, if_pos ⟨hc, hl⟩, clearFrom_step _ _ (by omega), over_any (by omega) hc]
  · rw [if_neg fun e => hc e.1, if_neg fun e => hc e.1, over_bad hc]; rfl
theorem dFrom_neg {v : Ver} {lev : Int} {least most : List UInt8} {q : Nat} (hl : lev < 0) : dFrom v lev least most q = true := by
  unfold dFrom
  rw [if_neg fun e => by have := e.2; omega]

set_option maxRecDepth 100000 in
set_option maxHeartbeats 4000000 in
theorem rdeepest_any (F L M : Nat → Prop) (v : Ver) (lv : Value) (lev : Int) (least most : List UInt8) (ql qm : Value) (w : World) (h : Rw (rowK filK) F w lv v.levels) (hw : v.wf) (hfew : cntTo v.levels v.levels.length ≤ 100) (hql : Bytes L w ql least) (hqm : Bytes M w qm most) :
    Calls Try.prog 47 #[.agg (verCells v lv).toArray, .int .i64 lev, ql, qm] w fun e w' => e = .returned (.bool (deepB v lev least most)) ∧ Below w.heap.size w w' := by
  have HOV := Lib.hid (fun (lev : Int) w' (hb : Below w.heap.size w w') => roverlap_any F L M v lv lev least most ql qm w' (h.below hb) hw hfew (hql.below hb) (hqm.below hb))
  obtain ⟨xa, ca, rfl⟩ := h.isSlice
  obtain ⟨la, lc, rfl⟩ := hql.isSlice
  obtain ⟨ma, mc, rfl⟩ := hqm.isSlice
  clear h hql hqm hw hfew
  generalize v.levels.length = m at *
  unfold verCells at HOV ⊢
  obtain ⟨q0, hq0⟩ : ∃ q : Nat, (q : Int) = min 5 (max 0 lev) + 1 := ⟨(min 5 (max 0 lev) + 1).toNat, by omega⟩
  have HD0 := Lib.hid (dFrom_start (v := v) (least := least) (most := most) hq0)
  have HST := Lib.hid (fun (q : Nat) (hq : q < 5) (hl : 0 ≤ lev) => dFrom_step (v := v) (least := least) (most := most) hq hl)
  have hq1 : 1 ≤ q0 := by omega
  have hq6 : q0 ≤ 6 := by omega
  have f1 : RowKit.wrap64 (min 5 (max 0 lev) + 1) = (q0 : Int) := by unfold RowKit.wrap64; omega
  have f2 : IntKind.i64.wrap (min 5 (max 0 lev) + 1) = (q0 : Int) := by rw [wrap_small (by omega) (by omega)]; omega
  have HQ0 := Lib.hid hq0
  clear hq0
  go_enter Try.func47, Try.ntmps47
  go_upto_region 1 with fail
  refine wp_gen fun w1 hw1 => ?_
  have HX1 : Hid (Blk w1 w.heap.size (verCells v (.slice xa m ca)).toArray 25) := by rw [hw1]; exact Blk.at_new rfl rfl
  have HW1 : Hid (Below w.heap.size w w1) := by rw [hw1]; exact (Below.refl _ _).alloc (Nat.le_refl _) _
  clear hw1
  go_wp2_with fail
  go_loopw [9] (fun kv wr => ∃ q : Nat, kv = .int .i64 (q : Int) ∧ 1 ≤ q ∧ q ≤ 6 ∧ Hid (deepB v lev least most = dFrom v lev least most q) ∧ Hid (Below w1.heap.size w1 wr)) (fun kv _ => 6 - (intOf kv).toNat)
  case atStart => exact ⟨q0, by first | rfl | (rw [HQ0.out]) | (congr 1; have := HQ0.out; omega), hq1, hq6, HD0.out, Below.refl _ _⟩
  case round =>
    obtain ⟨q, rfl, hqa, hqb, HD, HB⟩ := hrel
    by_cases hq5 : q < 5
    · have t1 : (q : Int) < 5 := by omega
      have t2 : 0 ≤ (q : Int) := by omega
      by_cases hl : 0 ≤ lev
      · have HS := Lib.hid (HST.out q hq5 hl)
        have HXr := Lib.hid (HX1.out.below HB.out HX1.out.lt)
        have x0 : wr.cell? ⟨w.heap.size, 0, none⟩ = some (.slice xa m ca) := HXr.out.cell rfl
        have x1 : wr.cell? ⟨w.heap.size, 1, none⟩ = some (.int .u64 v.next) := HXr.out.cell rfl
        have x2 : wr.cell? ⟨w.heap.size, 2, none⟩ = some (.int .u64 v.seq) := HXr.out.cell rfl
        have x3 : wr.cell? ⟨w.heap.size, 3, none⟩ = some (.int .u64 v.log) := HXr.out.cell rfl
        go_wp2_with fail
        clear x0 x1 x2 x3
        refine Calls.mono (HOV.out (q : Int) _ (HW1.out.trans (HB.out.mono HW1.out.size))) ?_
        rintro _ w3 ⟨r, rfl, hr, hb⟩
        obtain ⟨ra, rc, rfl⟩ := hr.isSlice
        have HB3 : Hid (Below w1.heap.size w1 w3) := HB.out.trans (hb.mono HB.out.size)
        clear hr hb HB HXr
        obtain ⟨nr, hnr⟩ : ∃ n, (overB v (q : Int) least most).length = n := ⟨_, rfl⟩
        rw [hnr] at HS ⊢
        clear hnr
        by_cases h0 : 0 < nr
        · have t3 : 0 < (nr : Int) := by omega
          have HF : Hid (deepB v lev least most = false) := by show _ = _; rw [HD.out, HS.out, decide_eq_true h0]; rfl
          go_wp2_with fail
          go_ret
          exact ⟨ret_bool HF.out.symm, HW1.out.trans (HB3.out.mono HW1.out.size)⟩
        · have t3 : ¬ 0 < (nr : Int) := by omega
          have HD2 : Hid (deepB v lev least most = dFrom v lev least most (q + 1)) := by show _ = _; rw [HD.out, HS.out, decide_eq_false h0]; rfl
          go_wp2_with fail
          go_roundw
          · exact ⟨q + 1, by go_num, by omega, by omega, HD2.out, HB3.out⟩
          · simp only [intOf]; omega
      · have t3 : lev < 0 := by omega
        have HD2 : Hid (deepB v lev least most = dFrom v lev least most (q + 1)) := by show _ = _; rw [HD.out, dFrom_neg t3, dFrom_neg t3]
        go_wp2_with fail
        go_roundw
        · exact ⟨q + 1, by go_num, by omega, by omega, HD2.out, HB.out⟩
        · simp only [intOf]; omega
    · have t1 : ¬ (q : Int) < 5 := by omega
      have HF : Hid (deepB v lev least most = true) := by show _ = _; rw [HD.out, dFrom_end (by omega)]
      go_wp2_with fail
      go_ret
      exact ⟨ret_bool HF.out.symm, HW1.out.trans (HB.out.mono HW1.out.size)⟩
end Go.Proofs.Ytkcohhldmhdcfaa

namespace Go.Proofs.Ytkcohhldmhdcfaa
open Go.RowKit

theorem num_up {l : List Fil} (h : ∀ k, 0 < k → k < l.length → (fat l (k - 1)).num < (fat l k).num) : ∀ k, k < l.length → (fat l 0).num ≤ (fat l k).num
  | 0, _ => Int.le_refl _
  | k + 1, hk => by
    have h1 := num_up h k (by omega)
    have h2 := h (k + 1) (by omega) hk
    rw [Nat.add_sub_cancel] at h2
    omega
theorem minTo_first {l : List Fil} (h : ∀ k, 0 < k → k < l.length → (fat l (k - 1)).num < (fat l k).num) : ∀ k, k < l.length → minTo l (k + 1) = fat l 0
  | 0, _ => by rw [minTo, if_pos (.inl rfl)]
  | k + 1, hk => by
    have h1 := minTo_first h k (by omega)
    have h2 := num_up h (k + 1) hk
    rw [minTo, h1, if_neg]
    rintro (e | e)
    · omega
    · omega
/-- On level 0 the file of the least number is the first. -/
theorem min_take {v : Ver} (hc : chkW v = 0) (hp : 0 < (lat v.levels 0).length) : [minF (lat v.levels 0)] = (lat v.levels 0).take 1 := by
  have h5 := (good_small hc).1
  have hi : ∀ k, 0 < k → k < (lat v.levels 0).length → (fat (lat v.levels 0) (k - 1)).num < (fat (lat v.levels 0) k).num := fun k h0 hk => by
    have hb := ((chkW_good hc).2.1.lev 0 (by omega) k hk).order h0
    unfold behind at hb
    simpa using hb
  obtain ⟨n, hn⟩ : ∃ n, (lat v.levels 0).length = n + 1 := ⟨(lat v.levels 0).length - 1, by omega⟩
  unfold minF
  rw [hn, minTo_first hi n (by omega)]
  rw [List.take_succ_eq_append_getElem hp, fat_eq hp]
  simp
end Go.Proofs.Ytkcohhldmhdcfaa

namespace Go.Proofs.Ytkcohhldmhdcfaa
open Go.RowKit

/-- The best file so far, in a block of its own. -/
structure UAt (F : Nat → Prop) (mb : Nat) (w0 w1 : World) (f : Fil) (w : World) : Prop where
  m : ∃ vl vm, Blk w mb (filCells f vl vm).toArray 42 ∧ Bytes (fun k => F k ∧ k < w0.heap.size) w vl f.least ∧ Bytes (fun k => F k ∧ k < w0.heap.size) w vm f.most ∧ f.wf
  b : Below w1.heap.size w1 w
theorem UAt.drewN {F : Nat → Prop} {mb : Nat} {w0 w1 w : World} {f : Fil} (h : UAt F mb w0 w1 f w) (q : Nat) : UAt F mb w0 w1 f (w.drewN q) := by
  obtain ⟨vl, vm, g1, g2, g3, g4⟩ := h.m
  exact ⟨⟨vl, vm, g1, g2.below (below_dn (Below.refl _ _) q), g3.below (below_dn (Below.refl _ _) q), g4⟩, below_dn h.b q⟩
theorem UAt.put {F : Nat → Prop} {w0 w1 w : World} {f g : Fil} {ol om vl vm : Value} (h : UAt F w1.heap.size w0 w1 f w) (hb : Blk w w1.heap.size (filCells f ol om).toArray 42) (hlt : w0.heap.size < w1.heap.size) (hw : g.wf) (h1 : Bytes (fun k => F k ∧ k < w0.heap.size) w vl g.least) (h2 : Bytes (fun k => F k ∧ k < w0.heap.size) w vm g.most) (q : Nat) :
    UAt F w1.heap.size w0 w1 g (set6 (w.drewN q) w1.heap.size g vl vm) := by
  have hd : Below w.heap.size w (w.drewN q) := below_dn (Below.refl _ _) q
  exact ⟨⟨vl, vm, (show Blk (w.drewN q) _ _ _ from hb).set6, (h1.below hd).blk6 (fun k hk e => by have := hk.2; omega), (h2.below hd).blk6 (fun k hk e => by have := hk.2; omega), hw⟩, below_set6 (below_dn h.b q) (Nat.le_refl _)⟩
set_option maxRecDepth 100000 in
set_option maxHeartbeats 4000000 in
theorem rupper_any (F : Nat → Prop) (v : Ver) (lv : Value) (i : Nat) (w : World) (h : Rw (rowK filK) F w lv v.levels) (hw : v.wf) (hck : chkW v = 0) (hfew : cntTo v.levels v.levels.length ≤ 100) (hp : 0 < (lat v.levels i).length) (hi : i < 5) :
    Calls Try.prog 64 #[.agg (verCells v lv).toArray, .int .i64 (i : Int)] w fun e w' => ∃ r, e = .returned r ∧ Rw filK (fun k => w.heap.size ≤ k ∨ F k) w' r (jUp v i) ∧ Below w.heap.size w w' := by
  have h5 := (good_small hck).1
  have HFI : Hid (∀ f ∈ lat v.levels 0, f.Fine) := (chkW_good hck).2.1.fine 0 (by omega)
  have HOV : Hid (∀ ls ms, overB v 0 ls ms = (lat v.levels 0).filter (lapB ls ms)) := fun ls ms => by unfold overB; rw [if_pos ⟨hck, by omega, by omega⟩]; rfl
  have HLL : Hid ((lat v.levels i).length ≤ 10000) := (good_small hck).2.1 i (by omega)
  have HLL0 : Hid ((lat v.levels 0).length ≤ 10000) := (good_small hck).2.1 0 (by omega)
  have HCO := Lib.hid (fun w' (hb : Below w.heap.size w w') (ls ms : List UInt8) (q1 q2 : Value) (L M : Nat → Prop) (g1 : Bytes L w' q1 ls) (g2 : Bytes M w' q2 ms) => roverlap_any F L M v lv 0 ls ms q1 q2 w' (h.below hb) hw hfew g1 g2)
  have HMT : Hid (i = 0 → [minF (lat v.levels 0)] = (lat v.levels 0).take 1) := fun e => by subst e; exact min_take hck hp
  have HP := Lib.hid hp
  have HK := Lib.hid hck
  obtain ⟨bl, ol, ca, el, hFl, hbl, hcl⟩ := levs_at h (by omega)
  obtain ⟨u, hu, hcu⟩ := hcl i (by omega)
  subst el
  rw [h5] at HCO ⊢
  obtain ⟨ua, uc, rfl⟩ := hu.isSlice
  have HU : Hid (Rw filK (fun k => F k ∧ k < w.heap.size) w (.slice ua (lat v.levels i).length uc) (lat v.levels i)) := hu.mono fun k hk hF => ⟨hF, hk⟩
  obtain ⟨l, hl⟩ : ∃ l, lat v.levels i = l := ⟨_, rfl⟩
  have HLI := Lib.hid hl
  rw [hl] at HLL HP HU hcu
  obtain ⟨n, hn⟩ : ∃ n, l.length = n := ⟨_, rfl⟩
  have HN := Lib.hid hn
  rw [hn] at HLL HP HU hcu
  have hp := HP.out
  clear h hw hck h5 hfew hcl hu hl hn
  unfold verCells at HCO ⊢
  go_enter Try.func64, Try.ntmps64
  go_upto_region 1 with fail
  refine wp_gen fun w1 hw1 => ?_
  have HX1 : Hid (Blk w1 w.heap.size (verCells v (.slice (some ⟨bl, ol, none⟩) 5 ca)).toArray 25) := by rw [hw1]; exact Blk.at_new rfl rfl
  have HW1 : Hid (Below w.heap.size w w1) := by rw [hw1]; exact (Below.refl _ _).alloc (Nat.le_refl _) _
  clear hw1
  have x0 : w1.cell? ⟨w.heap.size, 0, none⟩ = some (.slice (some ⟨bl, ol, none⟩) 5 ca) := HX1.out.cell rfl
  have c0 : w1.cell? ⟨bl, ol + i, none⟩ = some (.slice ua n uc) := (HW1.out.cell (p := ⟨bl, ol + i, none⟩) hbl).trans hcu
  have t1 : (i : Int) < 5 := by omega
  have t2 : 0 ≤ (i : Int) := by omega
  have t3 : 0 < (n : Int) := by omega
  obtain ⟨bf, of, rfl, fa, fc, ga, gc, hp1, hp2, hp6⟩ := file_at (HU.out.below HW1.out) HN.out hp
  have HM1 : Hid (minTo l 1 = fat l 0) := rfl
  have HWF := Lib.hid (HU.out.fwf _ (fat_mem (by rw [HN.out]; exact hp)))
  obtain ⟨f, hf⟩ : ∃ f, fat l 0 = f := ⟨_, rfl⟩
  rw [hf] at hp1 hp2 hp6 HM1 HWF
  have HV1 := Lib.hid hp1
  have HV2 := Lib.hid hp2
  obtain ⟨d0, d1, d2, d3, d4, d5⟩ := hp6
  have d0 : w1.cell? ⟨bf, of, none⟩ = some (.int .u64 f.num) := d0
  have d1 : w1.cell? ⟨bf, of + 1, none⟩ = some (.int .i64 f.size) := d1
  have d2 : w1.cell? ⟨bf, of + 2, none⟩ = some (.slice fa f.least.length fc) := d2
  have d3 : w1.cell? ⟨bf, of + 3, none⟩ = some (.slice ga f.most.length gc) := d3
  have d4 : w1.cell? ⟨bf, of + 4, none⟩ = some (.int .i64 f.ents) := d4
  have d5 : w1.cell? ⟨bf, of + 5, none⟩ = some (.int .u64 f.mseq) := d5
  clear hf hp1 hp2 hcu
  go_upto_region 3 with fail
  clear d0 d1 d2 d3 d4 d5 x0 c0
  refine wp_gen fun w2 hw2 => ?_
  have HM2 : Hid (Blk w2 w1.heap.size (filCells f (.slice fa f.least.length fc) (.slice ga f.most.length gc)).toArray 42) := by rw [hw2]; exact Blk.at_new rfl rfl
  have HB2 : Hid (Below w1.heap.size w1 w2) := by rw [hw2]; exact (Below.refl _ _).alloc (Nat.le_refl _) _
  clear hw2
  have HUA : Hid (UAt F w1.heap.size w w1 f w2) := ⟨⟨_, _, HM2.out, HV1.out.below HB2.out, HV2.out.below HB2.out, HWF.out⟩, HB2.out⟩
  have HMB : Hid (w.heap.size < w1.heap.size) := HX1.out.lt
  have HMW : Hid (w1.heap.size = w1.heap.size) := rfl
  clear HM2 HB2 HV1 HV2 HWF HMW
  go_wp2_with fail
  go_loopw [7] (fun kv wr => ∃ k : Nat, kv = .int .i64 (k : Int) ∧ 1 ≤ k ∧ k ≤ n ∧ Hid (UAt F w1.heap.size w w1 (minTo l k) wr)) (fun kv _ => n - (intOf kv).toNat)
  case atStart => exact ⟨1, rfl, by omega, by omega, by show UAt _ _ _ _ _ _; rw [HM1.out]; exact HUA.out⟩
  case round =>
    obtain ⟨k, rfl, hk1, hk, HKU⟩ := hrel
    clear HUA
    by_cases hkn : k < n
    · have u0 : n ≤ 10000 := HLL.out
      have u1 : (k : Int) < (n : Int) := by omega
      have u2 : 0 ≤ (k : Int) := by omega
      have hkl : k < l.length := by rw [HN.out]; exact hkn
      obtain ⟨_, _, ev, pa, pc, qa, qc, hp1, hp2, hp6⟩ := file_at (HU.out.below HW1.out) HN.out hkn
      injection ev with ev
      injection ev with e1 e2
      subst e1 e2
      have HMS : Hid (minTo l (k + 1) = if k = 0 ∨ (fat l k).num < (minTo l k).num then fat l k else minTo l k) := rfl
      have HWG := Lib.hid (HU.out.fwf _ (fat_mem hkl))
      obtain ⟨g, hg⟩ : ∃ f, fat l k = f := ⟨_, rfl⟩
      rw [hg] at hp1 hp2 hp6 HMS HWG
      obtain ⟨mf, hmf⟩ : ∃ f, minTo l k = f := ⟨_, rfl⟩
      rw [hmf] at HKU HMS
      have HP1 := Lib.hid (hp1.below HKU.out.b)
      have HP2 := Lib.hid (hp2.below HKU.out.b)
      obtain ⟨d0, d1, d2, d3, d4, d5⟩ := hp6.keep HKU.out.b (World.block_lt_of_cell? _ _ hp6.1)
      obtain ⟨m1, m2, hmb, hml, hmm, hmw⟩ := HKU.out.m
      obtain ⟨ra, rc, rfl⟩ := hml.isSlice
      obtain ⟨sa, sc, rfl⟩ := hmm.isSlice
      obtain ⟨z0, z1, z2, z3, z4, z5⟩ := C6.blk hmb
      have e0 := hmb.free 0
      have e1 := hmb.free 1
      have e2 := hmb.free 2
      have e3 := hmb.free 3
      have e4 := hmb.free 4
      have e5 := hmb.free 5
      have HMBK := Lib.hid hmb
      have HLT := Lib.hid (show ¬ k = 0 from by omega)
      clear hkl hg hmf hp1 hp2 hp6 hmb hml hmm hmw
      by_cases hlt : g.num < mf.num
      · have HR : Hid (minTo l (k + 1) = g) := by show _ = _; rw [HMS.out, if_pos (.inr hlt)]
        go_wp2_with fail
        go_quiet (fail)
        all_goals
          go_wp2_with fail
          go_roundw
          · exact ⟨k + 1, by go_num, by omega, by omega, by show UAt _ _ _ _ _ _; rw [HR.out]; exact UAt.put HKU.out HMBK.out HMB.out HWG.out HP1.out HP2.out _⟩
          · simp only [intOf]; omega
      · have HR : Hid (minTo l (k + 1) = mf) := by show _ = _; rw [HMS.out, if_neg fun e => e.elim HLT.out hlt]
        go_wp2_with fail
        go_quiet (fail)
        all_goals
          go_wp2_with fail
          go_roundw
          · exact ⟨k + 1, by go_num, by omega, by omega, by show UAt _ _ _ _ _ _; rw [HR.out]; exact HKU.out.drewN _⟩
          · simp only [intOf]; omega
    · have u1 : ¬ (k : Int) < (n : Int) := by omega
      obtain rfl : k = n := by omega
      have HMF : Hid (minTo l k = minF l) := by show _ = _; unfold minF; rw [HN.out]
      rw [HMF.out] at HKU
      obtain ⟨mf, hmf⟩ : ∃ f, minF l = f := ⟨_, rfl⟩
      have HMN := Lib.hid hmf
      rw [hmf] at HKU
      obtain ⟨m1, m2, hmb, hml, hmm, hmw⟩ := HKU.out.m
      obtain ⟨ra, rc, rfl⟩ := hml.isSlice
      obtain ⟨sa, sc, rfl⟩ := hmm.isSlice
      obtain ⟨z0, z1, z2, z3, z4, z5⟩ := C6.blk hmb
      have HML := Lib.hid hml
      have HMM := Lib.hid hmm
      have HMWF := Lib.hid hmw
      clear hmb hml hmm hmw hmf HMF
      go_upto_region 9 with fail
      clear z0 z1 z2 z3 z4 z5
      refine wp_gen fun w5 hw5 => ?_
      have hb5 : Below wr.heap.size wr w5 := by rw [hw5]; exact (Below.refl _ _).alloc (Nat.le_refl _) _
      have HO5 : Hid (Rw filK (fun j => w.heap.size ≤ j ∨ F j) w5 (.slice (some ⟨wr.heap.size, 0, none⟩) 1 1) [mf]) := by
        have hbk : Blk w5 wr.heap.size (filCells mf (.slice ra mf.least.length rc) (.slice sa mf.most.length sc)).toArray 42 := by rw [hw5]; exact Blk.at_new rfl rfl
        refine (rw_lit (K := filK) (F := fun j => F j ∧ j < w.heap.size) (n := 1) (xs := [mf]) hbk ⟨⟨_, _, rfl, HML.out.below hb5, HMM.out.below hb5, HMWF.out⟩, rfl⟩ rfl (by decide)).mono fun j _ hj => ?_
        rcases hj with rfl | hj
        · exact .inl (Nat.le_trans HW1.out.size HKU.out.b.size)
        · exact .inr hj.1
      have HW5 : Hid (Below w1.heap.size w1 w5) := HKU.out.b.trans (hb5.mono HKU.out.b.size)
      clear hw5 hb5 HKU HML HMM
      generalize wr.heap.size = ob at *
      by_cases hi0 : i = 0
      · subst hi0
        have HT1 : Hid ([mf] = l.take 1) := by have h1 := HMT.out rfl; rw [HLI.out, HMN.out] at h1; exact h1
        have HFI2 : Hid (∀ f ∈ l, f.Fine) := by have h1 := HFI.out; rw [HLI.out] at h1; exact h1
        have HOV2 : Hid (∀ ls ms, overB v 0 ls ms = l.filter (lapB ls ms)) := by have h1 := HOV.out; rw [HLI.out] at h1; exact h1
        have HRES : Hid (jUp v 0 = gathL l) := by show _ = _; unfold jUp; rw [if_pos rfl, HLI.out]
        have HLP : Hid (0 < l.length) := by show _ < _; rw [HN.out]; exact HP.out
        clear HMT HFI HOV
        go_wp2_with fail
        go_loopw [8] (fun ov wr => ∃ (out : List Fil) (a : Option Addr) (c : Nat), ov = .slice a out.length c ∧ Hid (GR l out) ∧ Hid (Rw filK (fun j => w.heap.size ≤ j ∨ F j) wr (.slice a out.length c) out) ∧ Hid (Below w1.heap.size w1 wr)) (fun ov _ => l.length - lenOfV ov)
        case atStart => exact ⟨[mf], _, _, rfl, by show GR _ _; rw [HT1.out]; exact GR.start HLP.out, HO5.out, HW5.out⟩
        case round =>
          obtain ⟨out, a, c, rfl, HG, HO, HB⟩ := hrel
          clear HO5 HW5
          have HTO : Hid (tops l out = l.filter (lapB (leastOf out) (mostOf out))) := rfl
          have hol : out.length ≤ 10000 := Nat.le_trans HG.out.gi.sub.length_le (by rw [HN.out]; exact HLL.out)
          have HOP := Lib.hid HG.out.gi.pos
          obtain ⟨no, hno⟩ : ∃ n, out.length = n := ⟨_, rfl⟩
          have HON := Lib.hid hno
          rw [hno] at HO hol ⊢
          clear hno
          go_wp2_with fail
          refine Calls.mono (rends_any _ (.slice a no c) out wr HO.out HOP.out (by rw [HON.out]; omega)) ?_
          rintro _ w6 ⟨r1, r2, rfl, hb1, hb2, hb⟩
          obtain ⟨a1, c1, rfl⟩ := hb1.isSlice
          obtain ⟨a2, c2, rfl⟩ := hb2.isSlice
          have HB6 : Hid (Below w1.heap.size w1 w6) := HB.out.trans (hb.mono HB.out.size)
          have HO6 := Lib.hid (HO.out.below hb)
          have HL6 := Lib.hid hb1
          have HM6 := Lib.hid hb2
          obtain ⟨ls, hls⟩ : ∃ x, leastOf out = x := ⟨_, rfl⟩
          obtain ⟨ms, hms⟩ : ∃ x, mostOf out = x := ⟨_, rfl⟩
          rw [hls] at HL6 HTO ⊢
          rw [hms] at HM6 HTO ⊢
          clear hb hb1 hb2 HO HB hls hms
          have HX6 := Lib.hid (HX1.out.below HB6.out HX1.out.lt)
          have x0 : w6.cell? ⟨w.heap.size, 0, none⟩ = some (.slice (some ⟨bl, ol, none⟩) 5 ca) := HX6.out.cell rfl
          have x1 : w6.cell? ⟨w.heap.size, 1, none⟩ = some (.int .u64 v.next) := HX6.out.cell rfl
          have x2 : w6.cell? ⟨w.heap.size, 2, none⟩ = some (.int .u64 v.seq) := HX6.out.cell rfl
          have x3 : w6.cell? ⟨w.heap.size, 3, none⟩ = some (.int .u64 v.log) := HX6.out.cell rfl
          go_wp2_with fail
          clear x0 x1 x2 x3
          refine Calls.mono (HCO.out _ (HW1.out.trans (HB6.out.mono HW1.out.size)) ls ms _ _ _ _ HL6.out HM6.out) ?_
          rintro _ w7 ⟨r4, rfl, hr4, hb⟩
          rw [HOV2.out, ← HTO.out] at hr4
          obtain ⟨a4, c4, rfl⟩ := hr4.isSlice
          have HB7 : Hid (Below w1.heap.size w1 w7) := HB6.out.trans (hb.mono HB6.out.size)
          have HR7 : Hid (Rw filK (fun j => w.heap.size ≤ j ∨ F j) w7 (.slice a4 (tops l out).length c4) (tops l out)) := hr4.mono fun j _ hj => .inl (Nat.le_trans (Nat.le_trans HW1.out.size HB6.out.size) hj)
          clear hr4 hb HX6 HL6 HM6 HO6
          by_cases heq : (tops l out).length = no
          · have HQ : Hid (jUp v 0 = tops l out) := by
              show _ = _
              have he : (tops l out).length = out.length := by rw [HON.out]; exact heq
              rw [HRES.out, ← HG.out.done he, HG.out.gi.same HFI2.out he]
            have HR8 : Hid (Rw filK (fun j => w.heap.size ≤ j ∨ F j) w7 (.slice a4 no c4) (jUp v 0)) := by have h1 := HR7.out; rw [heq] at h1; show Rw _ _ _ _ _; rw [HQ.out]; exact h1
            have HWE : Hid (Below w.heap.size w w7) := HW1.out.trans (HB7.out.mono HW1.out.size)
            rw [heq]
            clear heq HR7
            go_wp2_with fail
            go_ret
            exact ⟨_, rfl, HR8.out, HWE.out⟩
          · have HGM := Lib.hid (HG.out.more HFI2.out (by rw [HON.out]; exact heq))
            obtain ⟨more, hmore⟩ : ∃ x, tops l out = x := ⟨_, rfl⟩
            rw [hmore] at HR7 HGM heq ⊢
            obtain ⟨nm, hnm⟩ : ∃ x, more.length = x := ⟨_, rfl⟩
            have HNM := Lib.hid hnm
            rw [hnm] at HR7 heq ⊢
            have g0 : ((nm : Int) == (no : Int)) = false := by rw [beq_eq_false_iff_ne]; omega
            clear hmore hnm heq
            go_wp2_with fail
            go_roundw
            · exact ⟨more, a4, c4, by rw [HNM.out], HGM.out.1, by rw [HNM.out]; exact HR7.out, HB7.out⟩
            · have h1 := HGM.out.2
              rw [HNM.out, HON.out] at h1
              simp only [lenOfV]
              omega
      · have u2 : 0 < (i : Int) := by omega
        have HRES : Hid (jUp v i = [mf]) := by show _ = _; unfold jUp; rw [if_neg hi0, HLI.out, HMN.out]
        have HWE : Hid (Below w.heap.size w w5) := HW1.out.trans (HW5.out.mono HW1.out.size)
        go_wp2_with fail
        go_ret
        exact ⟨_, rfl, by rw [HRES.out]; exact HO5.out, HWE.out⟩
end Go.Proofs.Ytkcohhldmhdcfaa
