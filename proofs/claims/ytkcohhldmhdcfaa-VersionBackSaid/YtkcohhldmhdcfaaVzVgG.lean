/- Chapter 12: version.Whole. -/
import Derived.Test.YtkcohhldmhdcfaaVzVgF
namespace Go.Proofs.Ytkcohhldmhdcfaa
open Go.RowKit

set_option maxRecDepth 100000 in
set_option maxHeartbeats 2000000 in
theorem whole1_any (vb eb : Nat) (v : Ver) (lv : Value) (w : World) (hv : Blk w vb (verCells v lv).toArray 25) (he : Blk w eb zero5 57) (hne : vb ≠ eb) :
    Calls Try.prog 83 #[.pointer (some ⟨eb, 0, none⟩), .pointer (some ⟨vb, 0, none⟩)] w fun e w' => e = .returned (.tuple #[]) ∧ Blk w' eb #[.slice none 0 0, .slice none 0 0, .int .u64 v.next, .int .u64 v.seq, .int .u64 v.log] 57 ∧ Wrote (fun k => k = eb) w w' := by
  have HV := Lib.hid hv
  have HE := Lib.hid he
  have HKP : Hid (∀ W, Wrote (fun k => k = eb) w W → (W.cell? ⟨vb, 1, none⟩ = some (.int .u64 v.next) ∧ W.cell? ⟨vb, 2, none⟩ = some (.int .u64 v.seq) ∧ W.cell? ⟨vb, 3, none⟩ = some (.int .u64 v.log))) := fun W hw => by
    have h1 := hv.same (hw.block _ hv.lt hne)
    exact ⟨h1.cell rfl, h1.cell rfl, h1.cell rfl⟩
  have o2 : w.cell? ⟨eb, 2, none⟩ = some (.int .u64 0) := he.cell rfl
  have o3 : w.cell? ⟨eb, 3, none⟩ = some (.int .u64 0) := he.cell rfl
  have o4 : w.cell? ⟨eb, 4, none⟩ = some (.int .u64 0) := he.cell rfl
  have f2 := he.free 2
  have f3 := he.free 3
  have f4 := he.free 4
  clear hv he
  have W0 : Wrote (fun k => k = eb) w w.drew := Wrote.of_below (below_drew (Below.refl _ _))
  go_enter Try.func83, Try.ntmps83
  refine wp_region_held_drew (S := fun W => (W.cell? ⟨vb, 1, none⟩ = some (.int .u64 v.next) ∧ W.cell? ⟨vb, 2, none⟩ = some (.int .u64 v.seq) ∧ W.cell? ⟨vb, 3, none⟩ = some (.int .u64 v.log))) (by kernel_rfl) (HKP.out _ W0) (fun hHeld => ?_)
  refine wpAnyH_take (i := 0) (oi := ?oD_1_0) (v := ?vD_1_0) ?eD_1_0 (by kernel_rfl) (by kernel_rfl) (by kernel_rfl) ?qD_1_0 (Or.inl ⟨?wD_1_0, ?yD_1_0⟩) (by assumption) ?rD_1_0
  case eD_1_0 => simp only [List.getElem?_toArray, List.getElem?_cons_zero]; rfl
  case wD_1_0 => rfl
  case qD_1_0 => exact fun _ _ _ h => h
  case yD_1_0 => (intro w hSw; (try dsimp only at hSw); go_simp; try with_reducible rfl)
  try simp only [Act.put, List.setIfInBounds_toArray, List.set_cons_zero, List.set_cons_succ]
  refine wpAnyH_take (i := 1) (oi := ?oD_2_1) (v := ?vD_2_1) ?eD_2_1 (by kernel_rfl) (by kernel_rfl) (by kernel_rfl) ?qD_2_1 (Or.inl ⟨?wD_2_1, ?yD_2_1⟩) (by assumption) ?rD_2_1
  case eD_2_1 => simp only [List.getElem?_toArray, List.getElem?_cons_succ, List.getElem?_cons_zero]; rfl
  case wD_2_1 => rfl
  case qD_2_1 => exact fun _ _ _ h => h
  case yD_2_1 => (intro w hSw; (try dsimp only at hSw); go_simp; try with_reducible rfl)
  try simp only [Act.put, List.setIfInBounds_toArray, List.set_cons_zero, List.set_cons_succ]
  refine wpAnyH_take (i := 2) (oi := ?oD_3_2) (v := ?vD_3_2) ?eD_3_2 (by kernel_rfl) (by kernel_rfl) (by kernel_rfl) ?qD_3_2 (Or.inl ⟨?wD_3_2, ?yD_3_2⟩) (by assumption) ?rD_3_2
  case eD_3_2 => simp only [List.getElem?_toArray, List.getElem?_cons_succ, List.getElem?_cons_zero]; rfl
  case wD_3_2 => rfl
  case qD_3_2 => exact fun _ _ _ h => h
  case yD_3_2 => (intro w hSw; (try dsimp only at hSw); go_simp; try with_reducible rfl)
  try simp only [Act.put, List.setIfInBounds_toArray, List.set_cons_zero, List.set_cons_succ]
  refine wpAnyH_take (i := 3) (oi := ?oD_4_3) (v := ?vD_4_3) ?eD_4_3 (by kernel_rfl) (by kernel_rfl) (by kernel_rfl) ?qD_4_3 (Or.inl ⟨?wD_4_3, ?yD_4_3⟩) (by assumption) ?rD_4_3
  case eD_4_3 => simp only [List.getElem?_toArray, List.getElem?_cons_succ, List.getElem?_cons_zero]; rfl
  case wD_4_3 => rfl
  case qD_4_3 => exact fun _ _ _ h => h
  case yD_4_3 => (intro w hSw; (try dsimp only at hSw); go_simp; try with_reducible rfl)
  try simp only [Act.put, List.setIfInBounds_toArray, List.set_cons_zero, List.set_cons_succ]
  refine wpAnyH_take (i := 4) (oi := ?oD_5_4) (v := ?vD_5_4) ?eD_5_4 (by kernel_rfl) (by kernel_rfl) (by kernel_rfl) ?qD_5_4 (Or.inl ⟨?wD_5_4, ?yD_5_4⟩) (by assumption) ?rD_5_4
  case eD_5_4 => simp only [List.getElem?_toArray, List.getElem?_cons_succ, List.getElem?_cons_zero]; rfl
  case wD_5_4 => rfl
  case qD_5_4 => exact fun _ _ _ h => h
  case yD_5_4 => (intro w hSw; (try dsimp only at hSw); go_simp; try with_reducible rfl)
  try simp only [Act.put, List.setIfInBounds_toArray, List.set_cons_zero, List.set_cons_succ]
  refine wpAnyH_take (i := 5) (oi := ?oD_6_5) (v := ?vD_6_5) ?eD_6_5 (by kernel_rfl) (by kernel_rfl) (by kernel_rfl) ?qD_6_5 (Or.inl ⟨?wD_6_5, ?yD_6_5⟩) (by assumption) ?rD_6_5
  case eD_6_5 => simp only [List.getElem?_toArray, List.getElem?_cons_succ, List.getElem?_cons_zero]; rfl
  case wD_6_5 => rfl
  case qD_6_5 => exact fun _ _ _ h => h
  case yD_6_5 => (intro w hSw; (try dsimp only at hSw); go_simp; try with_reducible rfl)
  try simp only [Act.put, List.setIfInBounds_toArray, List.set_cons_zero, List.set_cons_succ]
  refine wpAnyH_take (i := 6) (oi := ?oD_7_6) (v := ?vD_7_6) ?eD_7_6 (by kernel_rfl) (by kernel_rfl) (by kernel_rfl) ?qD_7_6 (Or.inl ⟨?wD_7_6, ?yD_7_6⟩) (by assumption) ?rD_7_6
  case eD_7_6 => simp only [List.getElem?_toArray, List.getElem?_cons_succ, List.getElem?_cons_zero]; rfl
  case wD_7_6 => rfl
  case qD_7_6 => exact fun _ _ _ h => h
  case yD_7_6 => (intro w hSw; (try dsimp only at hSw); go_simp; try with_reducible rfl)
  try simp only [Act.put, List.setIfInBounds_toArray, List.set_cons_zero, List.set_cons_succ]
  refine wpAnyH_take (i := 7) (oi := ?oD_8_7) (v := ?vD_8_7) ?eD_8_7 (by kernel_rfl) (by kernel_rfl) (by kernel_rfl) ?qD_8_7 (Or.inl ⟨?wD_8_7, ?yD_8_7⟩) (by assumption) ?rD_8_7
  case eD_8_7 => simp only [List.getElem?_toArray, List.getElem?_cons_succ, List.getElem?_cons_zero]; rfl
  case wD_8_7 => rfl
  case qD_8_7 => exact fun _ _ _ h => h
  case yD_8_7 => (intro w hSw; (try dsimp only at hSw); go_simp; try with_reducible rfl)
  try simp only [Act.put, List.setIfInBounds_toArray, List.set_cons_zero, List.set_cons_succ]
  refine wpAnyH_take (i := 8) (oi := ?oD_9_8) (v := ?vD_9_8) ?eD_9_8 (by kernel_rfl) (by kernel_rfl) (by kernel_rfl) ?qD_9_8 (Or.inl ⟨?wD_9_8, ?yD_9_8⟩) (by assumption) ?rD_9_8
  case eD_9_8 => simp only [List.getElem?_toArray, List.getElem?_cons_succ, List.getElem?_cons_zero]; rfl
  case wD_9_8 => rfl
  case qD_9_8 => exact fun _ _ _ h => h
  case yD_9_8 => (intro w hSw; (try dsimp only at hSw); go_simp; try with_reducible rfl)
  try simp only [Act.put, List.setIfInBounds_toArray, List.set_cons_zero, List.set_cons_succ]
  refine wpAnyH_take (i := 9) (oi := ?oD_10_9) (v := ?vD_10_9) ?eD_10_9 (by kernel_rfl) (by kernel_rfl) (by kernel_rfl) ?qD_10_9 (Or.inl ⟨?wD_10_9, ?yD_10_9⟩) (by assumption) ?rD_10_9
  case eD_10_9 => simp only [List.getElem?_toArray, List.getElem?_cons_succ, List.getElem?_cons_zero]; rfl
  case wD_10_9 => rfl
  case qD_10_9 => exact fun _ _ _ h => h
  case yD_10_9 => (intro w hSw; (try dsimp only at hSw); go_simp; try with_reducible rfl)
  try simp only [Act.put, List.setIfInBounds_toArray, List.set_cons_zero, List.set_cons_succ]
  refine wpAnyH_take (i := 10) (oi := ?oD_11_10) (v := ?vD_11_10) ?eD_11_10 (by kernel_rfl) (by kernel_rfl) (by kernel_rfl) ?qD_11_10 (Or.inl ⟨?wD_11_10, ?yD_11_10⟩) (by assumption) ?rD_11_10
  case eD_11_10 => simp only [List.getElem?_toArray, List.getElem?_cons_succ, List.getElem?_cons_zero]; rfl
  case wD_11_10 => rfl
  case qD_11_10 => exact fun _ _ _ h => h
  case yD_11_10 => (intro w hSw; (try dsimp only at hSw); go_simp; try with_reducible rfl)
  try simp only [Act.put, List.setIfInBounds_toArray, List.set_cons_zero, List.set_cons_succ]
  have hOld := hHeld
  clear hHeld
  refine wpAnyH_ready (rs := [11]) (by kernel_rfl) (by simp) ?_
  refine AllReadyH.cons (o := ?oD_12_11) ?eD_12_11 (fun K hK => ?_) AllReadyH.nil
  case eD_12_11 => simp only [List.getElem?_toArray, List.getElem?_cons_succ, List.getElem?_cons_zero]; rfl
  go_simp
  skip
  try go_wp2_with fail
  refine hK.out _ _ (HKP.out _ (Wrote.setCell (S := fun k => k = eb) W0 _ _ (.inl rfl))) (fun hHeld => ?_)
  clear hK hOld
  try simp only [Act.put, List.setIfInBounds_toArray, List.set_cons_zero, List.set_cons_succ]
  refine wpAnyH_take (i := 12) (oi := ?oD_13_12) (v := ?vD_13_12) ?eD_13_12 (by kernel_rfl) (by kernel_rfl) (by kernel_rfl) ?qD_13_12 (Or.inl ⟨?wD_13_12, ?yD_13_12⟩) (by assumption) ?rD_13_12
  case eD_13_12 => simp only [List.getElem?_toArray, List.getElem?_cons_succ, List.getElem?_cons_zero]; rfl
  case wD_13_12 => rfl
  case qD_13_12 => exact fun _ _ _ h => h
  case yD_13_12 => (intro w hSw; (try dsimp only at hSw); go_simp; try with_reducible rfl)
  try simp only [Act.put, List.setIfInBounds_toArray, List.set_cons_zero, List.set_cons_succ]
  refine wpAnyH_take (i := 13) (oi := ?oD_14_13) (v := ?vD_14_13) ?eD_14_13 (by kernel_rfl) (by kernel_rfl) (by kernel_rfl) ?qD_14_13 (Or.inl ⟨?wD_14_13, ?yD_14_13⟩) (by assumption) ?rD_14_13
  case eD_14_13 => simp only [List.getElem?_toArray, List.getElem?_cons_succ, List.getElem?_cons_zero]; rfl
  case wD_14_13 => rfl
  case qD_14_13 => exact fun _ _ _ h => h
  case yD_14_13 => (intro w hSw; (try dsimp only at hSw); go_simp; try with_reducible rfl)
  try simp only [Act.put, List.setIfInBounds_toArray, List.set_cons_zero, List.set_cons_succ]
  have hOld := hHeld
  clear hHeld
  refine wpAnyH_ready (rs := [14]) (by kernel_rfl) (by simp) ?_
  refine AllReadyH.cons (o := ?oD_15_14) ?eD_15_14 (fun K hK => ?_) AllReadyH.nil
  case eD_15_14 => simp only [List.getElem?_toArray, List.getElem?_cons_succ, List.getElem?_cons_zero]; rfl
  go_simp
  skip
  try go_wp2_with fail
  refine hK.out _ _ (HKP.out _ (Wrote.setCell (S := fun k => k = eb) (Wrote.setCell (S := fun k => k = eb) W0 _ _ (.inl rfl)) _ _ (.inl rfl))) (fun hHeld => ?_)
  clear hK hOld
  try simp only [Act.put, List.setIfInBounds_toArray, List.set_cons_zero, List.set_cons_succ]
  refine wpAnyH_take (i := 15) (oi := ?oD_16_15) (v := ?vD_16_15) ?eD_16_15 (by kernel_rfl) (by kernel_rfl) (by kernel_rfl) ?qD_16_15 (Or.inl ⟨?wD_16_15, ?yD_16_15⟩) (by assumption) ?rD_16_15
  case eD_16_15 => simp only [List.getElem?_toArray, List.getElem?_cons_succ, List.getElem?_cons_zero]; rfl
  case wD_16_15 => rfl
  case qD_16_15 => exact fun _ _ _ h => h
  case yD_16_15 => (intro w hSw; (try dsimp only at hSw); go_simp; try with_reducible rfl)
  try simp only [Act.put, List.setIfInBounds_toArray, List.set_cons_zero, List.set_cons_succ]
  refine wpAnyH_take (i := 16) (oi := ?oD_17_16) (v := ?vD_17_16) ?eD_17_16 (by kernel_rfl) (by kernel_rfl) (by kernel_rfl) ?qD_17_16 (Or.inl ⟨?wD_17_16, ?yD_17_16⟩) (by assumption) ?rD_17_16
  case eD_17_16 => simp only [List.getElem?_toArray, List.getElem?_cons_succ, List.getElem?_cons_zero]; rfl
  case wD_17_16 => rfl
  case qD_17_16 => exact fun _ _ _ h => h
  case yD_17_16 => (intro w hSw; (try dsimp only at hSw); go_simp; try with_reducible rfl)
  try simp only [Act.put, List.setIfInBounds_toArray, List.set_cons_zero, List.set_cons_succ]
  have hOld := hHeld
  clear hHeld
  refine wpAnyH_ready (rs := [17]) (by kernel_rfl) (by simp) ?_
  refine AllReadyH.cons (o := ?oD_18_17) ?eD_18_17 (fun K hK => ?_) AllReadyH.nil
  case eD_18_17 => simp only [List.getElem?_toArray, List.getElem?_cons_succ, List.getElem?_cons_zero]; rfl
  go_simp
  skip
  try go_wp2_with fail
  refine hK.out _ _ (HKP.out _ (Wrote.setCell (S := fun k => k = eb) (Wrote.setCell (S := fun k => k = eb) (Wrote.setCell (S := fun k => k = eb) W0 _ _ (.inl rfl)) _ _ (.inl rfl)) _ _ (.inl rfl))) (fun hHeld => ?_)
  clear hK hOld
  try simp only [Act.put, List.setIfInBounds_toArray, List.set_cons_zero, List.set_cons_succ]
  refine wpAnyH_done (by kernel_rfl) ?_ _
  go_wp2_with fail
  go_end0
  exact ⟨rfl, ((HE.out.set 2 _).set 3 _).set 4 _, Wrote.setCell (S := fun k => k = eb) (Wrote.setCell (S := fun k => k = eb) (Wrote.setCell (S := fun k => k = eb) W0 _ _ (.inl rfl)) _ _ (.inl rfl)) _ _ (.inl rfl)⟩

/-- What lies in memory while the files of a copy are gathered into an edit. -/
structure WgAt (A eb : Nat) (v : Ver) (av : Value) (xs : List (Int × Fil)) (w0 w : World) : Prop where
  out : Blk w eb #[.slice none 0 0, av, .int .u64 v.next, .int .u64 v.seq, .int .u64 v.log] 57
  row : ROwnF addK (fun k => A ≤ k ∧ k ≠ eb) w0.heap.size 104 w av xs
  wr : Wrote (fun k => k = eb) w0 w
  lt : eb < w0.heap.size
theorem WgAt.below {A eb : Nat} {v : Ver} {av : Value} {xs : List (Int × Fil)} {w0 w w' : World} (h : WgAt A eb v av xs w0 w) (hb : Below w.heap.size w w') : WgAt A eb v av xs w0 w' :=
  ⟨h.out.below hb h.out.lt, h.row.below hb, h.wr.trans (Wrote.of_below hb), h.lt⟩
theorem WgAt.grow {A eb : Nat} {v : Ver} {av av' : Value} {xs xs' : List (Int × Fil)} {w0 w w' : World} (h : WgAt A eb v av xs w0 w) (hb : Below w0.heap.size w w') (hr : ROwnF addK (fun k => A ≤ k ∧ k ≠ eb) w0.heap.size 104 w' av' xs') :
    WgAt A eb v av' xs' w0 (w'.setCell ⟨eb, 1, none⟩ av') := by
  have hw : Wrote (fun k => k = eb) w0 w' := ⟨hb.os.trans h.wr.os, hb.tape.trans h.wr.tape, hb.output.trans h.wr.output, Nat.le_trans h.wr.size hb.size, fun k hk hn => (hb.block k hk).trans (h.wr.block k hk hn)⟩
  refine ⟨(h.out.below hb h.lt).set 1 _, hr.keep fun k hk hx => heap_setCell_other _ _ _ _ ?_, hw.setCell _ _ (.inl rfl), h.lt⟩
  show k ≠ eb
  have := h.lt
  rcases hx with e | ⟨e, -⟩
  · have := (hr.lt k e).1; omega
  · exact e.2
def Whole2Post (eb : Nat) (v : Ver) (w : World) (x : Ending) (w' : World) : Prop :=
  ∃ av w0, x = .returned (.tuple #[]) ∧ Below w.heap.size w w0 ∧ WgAt w.heap.size eb v av (wAdds v.levels 5) w0 w'
set_option maxRecDepth 100000 in
set_option maxHeartbeats 4000000 in
theorem whole2_any (F : Nat → Prop) (vb eb : Nat) (v : Ver) (lv : Value) (w : World) (hv : Blk w vb (verCells v lv).toArray 25) (he : Blk w eb #[.slice none 0 0, .slice none 0 0, .int .u64 v.next, .int .u64 v.seq, .int .u64 v.log] 57) (h : Rw (rowK filK) F w lv v.levels) (hck : chkW v = 0) :
    Calls Try.prog 84 #[.pointer (some ⟨eb, 0, none⟩), .pointer (some ⟨vb, 0, none⟩)] w (Whole2Post eb v w) := by
  have h5 := (good_small hck).1
  have HLE : Hid (∀ i, i < 5 → (lat v.levels i).length ≤ 10000) := fun i hi => (good_small hck).2.1 i (by omega)
  have HM := Lib.hid h5
  have HCL := Lib.hid (vclone_any F lv v.levels w h h5 (fun i hi => Nat.le_trans ((good_small hck).2.1 i hi) (by decide)) (fun i hi f hf => ⟨Nat.le_trans ((good_small hck).2.2 i hi f hf).1 (by decide), Nat.le_trans ((good_small hck).2.2 i hi f hf).2 (by decide)⟩))
  obtain ⟨xa, ca, rfl⟩ := h.isSlice
  rw [h5] at HCL hv
  have HE := Lib.hid he
  have x0 : w.cell? ⟨vb, 0, none⟩ = some (.slice xa 5 ca) := hv.cell rfl
  clear h hck h5 he hv
  go_enter Try.func84, Try.ntmps84
  go_wp2_with fail
  clear x0
  refine Calls.mono HCL.out ?_
  rintro _ w1 ⟨g, us, rfl, hfl, hb1⟩
  have HB1 := Lib.hid hb1
  have HG : Hid (Rw (rowK filK) (fun k => w.heap.size ≤ k) w1 (.slice (some ⟨g, 0, none⟩) 5 5) v.levels) := hfl.rows
  have HV1 : Hid (WgAt w.heap.size eb v (.slice none 0 0) (wAdds v.levels 0) w1 w1) := ⟨HE.out.below hb1 HE.out.lt, ROwnF.nil _ _ _ _ _, Wrote.of_below (Below.refl _ _), Nat.lt_of_lt_of_le HE.out.lt hb1.size⟩
  have HEB : Hid (eb < w.heap.size ∧ w.heap.size ≤ w1.heap.size) := ⟨HE.out.lt, hb1.size⟩
  have HFD : ∀ W, (Instr.field 95 (.agg #[.slice (some ⟨g, 0, none⟩) 5 5]) 0).run Try.prog W = .ok (.slice (some ⟨g, 0, none⟩) 5 5) W := fun W => by kernel_rfl
  clear hb1 hfl HCL HE
  go_wp2_with fail
  go_loopw [13] (fun iv wr => ∃ (i : Nat) (av : Value), iv = .int .i64 (i : Int) ∧ i ≤ 5 ∧ Hid (WgAt w.heap.size eb v av (wAdds v.levels i) w1 wr)) (fun iv _ => 5 - (intOf iv).toNat)
  case atStart => exact ⟨0, _, rfl, by omega, HV1.out⟩
  case round =>
    obtain ⟨i, av, rfl, hi, HV⟩ := hrel
    clear HV1
    by_cases hi5 : i < 5
    · have t1 : (i : Int) < 5 := by omega
      have t2 : 0 ≤ (i : Int) := by omega
      have hil : i < v.levels.length := by rw [HM.out]; exact hi5
      obtain ⟨ba, oa, capa, ea, hF, hba, hca⟩ := levs_at HG.out (by rw [HM.out]; omega)
      obtain ⟨u, hu, hcu⟩ := hca i hil
      rw [HM.out] at ea
      injection ea with e1 e2 e3
      injection e1 with e1
      injection e1 with e1 e4
      subst e1 e4 e3
      obtain ⟨ua, uc, rfl⟩ := hu.isSlice
      have HU := Lib.hid hu
      have hcu := (World.cell?_of_block (a := ⟨g, 0 + i, none⟩) (HV.out.wr.block g hba (by have := HEB.out; show ¬ g = eb; omega))).trans hcu
      rw [Nat.zero_add] at hcu
      have HLL := Lib.hid (HLE.out i hi5)
      have HXL : Hid ((wAdds v.levels i).length ≤ 50000) := Nat.le_trans (wAdds_len (n := 10000) HLE.out i hi) (by omega)
      have HWN : Hid (wAdds v.levels (i + 1) = wAdds v.levels i ++ levAdds i (lat v.levels i)) := rfl
      obtain ⟨l, hl⟩ : ∃ l, lat v.levels i = l := ⟨_, rfl⟩
      rw [hl] at HU HLL HWN hcu
      obtain ⟨XS, hXS⟩ : ∃ x, wAdds v.levels i = x := ⟨_, rfl⟩
      rw [hXS] at HV HXL HWN
      obtain ⟨n, hn⟩ : ∃ n, l.length = n := ⟨_, rfl⟩
      have HN := Lib.hid hn
      rw [hn] at HU HLL hcu
      clear e2 hca hu hba hil hl hn hF hXS
      go_wp2_with fail
      clear hcu
      generalize wr = wo at *
      go_loopw [20] (fun kv wr => ∃ (k : Nat) (av : Value), kv = .int .i64 (k : Int) ∧ k ≤ n ∧ Hid (WgAt w.heap.size eb v av (XS ++ levAdds i (l.take k)) w1 wr)) (fun kv _ => n - (intOf kv).toNat)
      case atStart => exact ⟨0, _, rfl, by omega, by show WgAt _ _ _ _ _ _ _; rw [show XS ++ levAdds i (l.take 0) = XS from List.append_nil _]; exact HV.out⟩
      case round =>
        obtain ⟨k, av, rfl, hk, HV2⟩ := hrel
        clear HV
        by_cases hkn : k < n
        · have u0 : n ≤ 10000 := HLL.out
          have u1 : (k : Int) < (n : Int) := by omega
          have u2 : 0 ≤ (k : Int) := by omega
          have hkl : k < l.length := by rw [HN.out]; exact hkn
          have hU2 : Rw filK (fun k => w.heap.size ≤ k ∧ k < w1.heap.size) wr (.slice ua n uc) l := (HU.out.mono (F' := fun k => w.heap.size ≤ k ∧ k < w1.heap.size) fun k hk hF => ⟨hF, hk⟩).keep fun k hk hF => HV2.out.wr.block k hk (by have := HEB.out; have := hF.1; show ¬ k = eb; omega)
          obtain ⟨bf, of, cap, eu, hbf, _, hcf⟩ := fils_at hU2 (by omega)
          obtain ⟨vl, vm, hp1, hp2, hwf, hp6⟩ := hcf k hkl
          rw [HN.out] at eu
          injection eu with e1 e2 e3
          subst e1 e3
          have HT2 : Hid ((XS ++ levAdds i (l.take k)) ++ [((i : Int), fat l k)] = XS ++ levAdds i (l.take (k + 1))) := by show _ = _; rw [List.append_assoc, levAdds_more hkl]
          have HL2 : Hid ((XS ++ levAdds i (l.take k)).length < 1000000) := by
            show _ < _
            unfold levAdds
            have := HXL.out
            rw [List.length_append, List.length_map, List.length_take]
            omega
          obtain ⟨f, hf⟩ : ∃ f, fat l k = f := ⟨_, rfl⟩
          rw [hf] at hp1 hp2 hp6 HT2 hwf
          obtain ⟨fa, fc, rfl⟩ := hp1.isSlice
          obtain ⟨ga, gc, rfl⟩ := hp2.isSlice
          have HP1 := Lib.hid hp1
          have HP2 := Lib.hid hp2
          have HWFF := Lib.hid hwf
          obtain ⟨d0, d1, d2, d3, d4, d5⟩ := hp6
          obtain ⟨XK, hXK⟩ : ∃ x, XS ++ levAdds i (l.take k) = x := ⟨_, rfl⟩
          rw [hXK] at HV2 HT2 HL2
          obtain ⟨pa, pc, rfl⟩ := HV2.out.row.isSlice
          obtain ⟨np, hnp⟩ : ∃ x, XK.length = x := ⟨_, rfl⟩
          rw [hnp] at HV2
          clear hp1 hp2 hf hkl hnp hXK hcf hbf hwf e2 hU2
          go_upto_region 6 with fail
          clear d0 d1 d2 d3 d4 d5
          refine wp_gen fun w5 hw5 => ?_
          have hb5 : Below wr.heap.size wr w5 := by rw [hw5]; exact (Below.refl _ _).alloc (Nat.le_refl _) _
          have HFB : Hid (Blk w5 wr.heap.size (filCells f (.slice fa f.least.length fc) (.slice ga f.most.length gc)).toArray 42) := by rw [hw5]; exact Blk.at_new rfl rfl
          have HV5 := Lib.hid (HV2.out.below hb5)
          have HP15 := Lib.hid (HP1.out.below hb5)
          have HP25 := Lib.hid (HP2.out.below hb5)
          have HOW : Hid (∀ j, (Value.slice pa np pc).ownBlock = some j → w1.heap.size ≤ j ∧ j < wr.heap.size) := fun j e => HV2.out.row.lt j e
          have HSZ : Hid (w1.heap.size ≤ wr.heap.size ∧ w1.heap.size ≤ w5.heap.size) := ⟨HV2.out.wr.size, HV5.out.wr.size⟩
          clear hw5 hb5 HV2 HP1 HP2
          generalize wr.heap.size = fb at *
          have HFB5 : Hid (fb < w5.heap.size) := HFB.out.lt
          have HKP : Hid (∀ W, Below w5.heap.size w5 W → (W.cell? ⟨eb, 1, none⟩ = some (.slice pa np pc) ∧ W.cell? ⟨fb, 0, none⟩ = some (.int .u64 f.num) ∧ W.cell? ⟨fb, 1, none⟩ = some (.int .i64 f.size) ∧ W.cell? ⟨fb, 2, none⟩ = some (.slice fa f.least.length fc) ∧ W.cell? ⟨fb, 3, none⟩ = some (.slice ga f.most.length gc) ∧ W.cell? ⟨fb, 4, none⟩ = some (.int .i64 f.ents) ∧ W.cell? ⟨fb, 5, none⟩ = some (.int .u64 f.mseq))) := fun W hb => by
            have h1 := HFB.out.below hb HFB.out.lt
            exact ⟨(HV5.out.out.below hb HV5.out.out.lt).cell rfl, h1.cell rfl, h1.cell rfl, h1.cell rfl, h1.cell rfl, h1.cell rfl, h1.cell rfl⟩
          have D0 : Below w5.heap.size w5 w5.drew := below_drew (Below.refl _ _)
          have HKQ : Hid (∀ (W x4 : World) (v4 : Value), Below w5.heap.size w5 W → Grew W x4 (.slice pa np pc) v4 → (fun W : World => (W.cell? ⟨eb, 1, none⟩ = some (.slice pa np pc) ∧ W.cell? ⟨fb, 0, none⟩ = some (.int .u64 f.num) ∧ W.cell? ⟨fb, 1, none⟩ = some (.int .i64 f.size) ∧ W.cell? ⟨fb, 2, none⟩ = some (.slice fa f.least.length fc) ∧ W.cell? ⟨fb, 3, none⟩ = some (.slice ga f.most.length gc) ∧ W.cell? ⟨fb, 4, none⟩ = some (.int .i64 f.ents) ∧ W.cell? ⟨fb, 5, none⟩ = some (.int .u64 f.mseq))) x4) := fun W x4 v4 hb hg => by
            have h1 := (HFB.out.below hb HFB.out.lt).same (hg.grown.block fb (Nat.lt_of_lt_of_le HFB.out.lt hb.size) fun e => by have := HOW.out fb e.symm; omega)
            have h2 := (HV5.out.out.below hb HV5.out.out.lt).same (hg.grown.block eb (Nat.lt_of_lt_of_le HV5.out.out.lt hb.size) fun e => by have := HOW.out eb e.symm; have := HEB.out; omega)
            exact ⟨h2.cell rfl, h1.cell rfl, h1.cell rfl, h1.cell rfl, h1.cell rfl, h1.cell rfl, h1.cell rfl⟩
          have hHeld := HKP.out _ D0
          refine wp_region_last (S := fun W => (W.cell? ⟨eb, 1, none⟩ = some (.slice pa np pc) ∧ W.cell? ⟨fb, 0, none⟩ = some (.int .u64 f.num) ∧ W.cell? ⟨fb, 1, none⟩ = some (.int .i64 f.size) ∧ W.cell? ⟨fb, 2, none⟩ = some (.slice fa f.least.length fc) ∧ W.cell? ⟨fb, 3, none⟩ = some (.slice ga f.most.length gc) ∧ W.cell? ⟨fb, 4, none⟩ = some (.int .i64 f.ents) ∧ W.cell? ⟨fb, 5, none⟩ = some (.int .u64 f.mseq))) (n := 12) (l := ?lT) (o := ?oT) rfl ?hlT ?hoT ?hnT ?hbT ?hgT ?hT
          case hlT => simp only [List.dropLast]; rfl
          case hoT => rfl
          case hnT => rfl
          case hbT => kernel_rfl
          case hgT => rfl
          skip
          refine wpAnyH_take (i := 0) (oi := ?oE_19_0) (v := ?vE_19_0) ?eE_19_0 (by kernel_rfl) (by kernel_rfl) (by kernel_rfl) ?qE_19_0 (Or.inl ⟨?wE_19_0, ?yE_19_0⟩) (by assumption) ?rE_19_0
          case eE_19_0 => simp only [List.getElem?_toArray, List.getElem?_cons_zero]; rfl
          case wE_19_0 => rfl
          case qE_19_0 => exact fun _ _ _ h => h
          case yE_19_0 => (intro w hSw; (try dsimp only at hSw); go_simp; try with_reducible rfl)
          try simp only [Act.put, List.setIfInBounds_toArray, List.set_cons_zero, List.set_cons_succ]
          refine wpAnyH_take (i := 1) (oi := ?oE_20_1) (v := ?vE_20_1) ?eE_20_1 (by kernel_rfl) (by kernel_rfl) (by kernel_rfl) ?qE_20_1 (Or.inl ⟨?wE_20_1, ?yE_20_1⟩) (by assumption) ?rE_20_1
          case eE_20_1 => simp only [List.getElem?_toArray, List.getElem?_cons_succ, List.getElem?_cons_zero]; rfl
          case wE_20_1 => rfl
          case qE_20_1 => exact fun _ _ _ h => h
          case yE_20_1 => (intro w hSw; (try dsimp only at hSw); go_simp; try with_reducible rfl)
          try simp only [Act.put, List.setIfInBounds_toArray, List.set_cons_zero, List.set_cons_succ]
          refine wpAnyH_take (i := 2) (oi := ?oE_21_2) (v := ?vE_21_2) ?eE_21_2 (by kernel_rfl) (by kernel_rfl) (by kernel_rfl) ?qE_21_2 (Or.inl ⟨?wE_21_2, ?yE_21_2⟩) (by assumption) ?rE_21_2
          case eE_21_2 => simp only [List.getElem?_toArray, List.getElem?_cons_succ, List.getElem?_cons_zero]; rfl
          case wE_21_2 => rfl
          case qE_21_2 => exact fun _ _ _ h => h
          case yE_21_2 => (intro w hSw; (try dsimp only at hSw); go_simp; try with_reducible rfl)
          try simp only [Act.put, List.setIfInBounds_toArray, List.set_cons_zero, List.set_cons_succ]
          refine wpAnyH_take (i := 3) (oi := ?oE_22_3) (v := ?vE_22_3) ?eE_22_3 (by kernel_rfl) (by kernel_rfl) (by kernel_rfl) ?qE_22_3 (Or.inl ⟨?wE_22_3, ?yE_22_3⟩) (by assumption) ?rE_22_3
          case eE_22_3 => simp only [List.getElem?_toArray, List.getElem?_cons_succ, List.getElem?_cons_zero]; rfl
          case wE_22_3 => rfl
          case qE_22_3 => exact fun _ _ _ h => h
          case yE_22_3 => (intro w hSw; (try dsimp only at hSw); go_simp; try with_reducible rfl)
          try simp only [Act.put, List.setIfInBounds_toArray, List.set_cons_zero, List.set_cons_succ]
          refine wpAnyH_take (i := 4) (oi := ?oE_23_4) (v := ?vE_23_4) ?eE_23_4 (by kernel_rfl) (by kernel_rfl) (by kernel_rfl) ?qE_23_4 (Or.inl ⟨?wE_23_4, ?yE_23_4⟩) (by assumption) ?rE_23_4
          case eE_23_4 => simp only [List.getElem?_toArray, List.getElem?_cons_succ, List.getElem?_cons_zero]; rfl
          case wE_23_4 => rfl
          case qE_23_4 => exact fun _ _ _ h => h
          case yE_23_4 => (intro w hSw; (try dsimp only at hSw); go_simp; try with_reducible rfl)
          try simp only [Act.put, List.setIfInBounds_toArray, List.set_cons_zero, List.set_cons_succ]
          refine wpAnyH_take (i := 5) (oi := ?oE_24_5) (v := ?vE_24_5) ?eE_24_5 (by kernel_rfl) (by kernel_rfl) (by kernel_rfl) ?qE_24_5 (Or.inl ⟨?wE_24_5, ?yE_24_5⟩) (by assumption) ?rE_24_5
          case eE_24_5 => simp only [List.getElem?_toArray, List.getElem?_cons_succ, List.getElem?_cons_zero]; rfl
          case wE_24_5 => rfl
          case qE_24_5 => exact fun _ _ _ h => h
          case yE_24_5 => (intro w hSw; (try dsimp only at hSw); go_simp; try with_reducible rfl)
          try simp only [Act.put, List.setIfInBounds_toArray, List.set_cons_zero, List.set_cons_succ]
          refine wpAnyH_take (i := 6) (oi := ?oE_25_6) (v := ?vE_25_6) ?eE_25_6 (by kernel_rfl) (by kernel_rfl) (by kernel_rfl) ?qE_25_6 (Or.inl ⟨?wE_25_6, ?yE_25_6⟩) (by assumption) ?rE_25_6
          case eE_25_6 => simp only [List.getElem?_toArray, List.getElem?_cons_succ, List.getElem?_cons_zero]; rfl
          case wE_25_6 => rfl
          case qE_25_6 => exact fun _ _ _ h => h
          case yE_25_6 => (intro w hSw; (try dsimp only at hSw); go_simp; try with_reducible rfl)
          try simp only [Act.put, List.setIfInBounds_toArray, List.set_cons_zero, List.set_cons_succ]
          refine wpAnyH_take (i := 7) (oi := ?oE_26_7) (v := ?vE_26_7) ?eE_26_7 (by kernel_rfl) (by kernel_rfl) (by kernel_rfl) ?qE_26_7 (Or.inl ⟨?wE_26_7, ?yE_26_7⟩) (by assumption) ?rE_26_7
          case eE_26_7 => simp only [List.getElem?_toArray, List.getElem?_cons_succ, List.getElem?_cons_zero]; rfl
          case wE_26_7 => rfl
          case qE_26_7 => exact fun _ _ _ h => h
          case yE_26_7 => (intro w hSw; (try dsimp only at hSw); go_simp; try with_reducible rfl)
          try simp only [Act.put, List.setIfInBounds_toArray, List.set_cons_zero, List.set_cons_succ]
          have hOld := hHeld
          clear hHeld
          refine wpAnyH_ready (rs := [8]) (by kernel_rfl) (by simp) ?_
          refine AllReadyH.cons (o := ?oE_27_8) ?eE_27_8 (fun K hK => ?_) AllReadyH.nil
          case eE_27_8 => simp only [List.getElem?_toArray, List.getElem?_cons_succ, List.getElem?_cons_zero]; rfl
          go_simp
          skip
          try go_wp2_with fail
          refine hK.out _ _ (HKP.out _ (by repeat (first | assumption | exact Below.refl _ _ | with_reducible refine below_drew ?_ | with_reducible refine below_al ?_ _))) (fun hHeld => ?_)
          clear hK hOld
          try simp only [Act.put, List.setIfInBounds_toArray, List.set_cons_zero, List.set_cons_succ]
          have hOld := hHeld
          clear hHeld
          refine wpAnyH_ready (rs := [9]) (by kernel_rfl) (by simp) ?_
          refine AllReadyH.cons (o := ?oE_28_9) ?eE_28_9 (fun K hK => ?_) AllReadyH.nil
          case eE_28_9 => simp only [List.getElem?_toArray, List.getElem?_cons_succ, List.getElem?_cons_zero]; rfl
          (refine step_append_elG (K := addK) (by rfl) 55 104 _ 88 Try.underlying55 info_addO (by rfl) (fun j => w.heap.size ≤ j ∧ j ≠ eb) w1.heap.size _ XK _ 104 (addCells (i : Int) f (.slice fa f.least.length fc) (.slice ga f.most.length gc)).toArray ((i : Int), f) (.tmp 28) (.tmp 32) (by rfl) (by rfl) (by rfl) (HV5.out.row.below (by repeat (first | assumption | exact Below.refl _ _ | with_reducible refine below_drew ?_ | with_reducible refine below_al ?_ _))) (Blk.at_new rfl rfl) ⟨_, _, rfl, ⟨by omega, by omega⟩, (HP15.out.below (by repeat (first | assumption | exact Below.refl _ _ | with_reducible refine below_drew ?_ | with_reducible refine below_al ?_ _))).mono fun j hj hx => ⟨⟨hx.1, fun e => by have := HEB.out; have := hx.1; omega⟩, fun e0 => by have := HOW.out j e0; have := hx.2; omega⟩, (HP25.out.below (by repeat (first | assumption | exact Below.refl _ _ | with_reducible refine below_drew ?_ | with_reducible refine below_al ?_ _))).mono fun j hj hx => ⟨⟨hx.1, fun e => by have := HEB.out; have := hx.1; omega⟩, fun e0 => by have := HOW.out j e0; have := hx.2; omega⟩, HWFF.out⟩ HL2.out (by decide) (Nat.le_trans HSZ.out.2 (Below.size (B := w5.heap.size) (by repeat (first | assumption | exact Below.refl _ _ | with_reducible refine below_drew ?_ | with_reducible refine below_al ?_ _)))) ?_; intro v4 x4 h41 h42; have D4 : Below w1.heap.size w5 x4 := ((show Below w5.heap.size w5 _ from (by repeat (first | assumption | exact Below.refl _ _ | with_reducible refine below_drew ?_ | with_reducible refine below_al ?_ _))).mono HSZ.out.2).trans (h42.below (Nat.le_trans HSZ.out.2 (Below.size (B := w5.heap.size) (by repeat (first | assumption | exact Below.refl _ _ | with_reducible refine below_drew ?_ | with_reducible refine below_al ?_ _)))) fun j e0 => (HOW.out j e0).1); rw [HT2.out] at h41; obtain ⟨q6, n6, e6⟩ := h41.isSlice; obtain ⟨nL, hnL⟩ : ∃ x, (XS ++ levAdds i (l.take (k + 1))).length = x := ⟨_, rfl⟩; rw [hnL] at e6; subst e6)
          try go_wp2_with fail
          refine hK.out _ _ (HKQ.out _ _ _ (by repeat (first | assumption | exact Below.refl _ _ | with_reducible refine below_drew ?_ | with_reducible refine below_al ?_ _)) h42) (fun hHeld => ?_)
          clear hK hOld
          try simp only [Act.put, List.setIfInBounds_toArray, List.set_cons_zero, List.set_cons_succ]
          refine wpAnyH_take (i := 10) (oi := ?oE_29_10) (v := ?vE_29_10) ?eE_29_10 (by kernel_rfl) (by kernel_rfl) (by kernel_rfl) ?qE_29_10 (Or.inl ⟨?wE_29_10, ?yE_29_10⟩) (by assumption) ?rE_29_10
          case eE_29_10 => simp only [List.getElem?_toArray, List.getElem?_cons_succ, List.getElem?_cons_zero]; rfl
          case wE_29_10 => rfl
          case qE_29_10 => exact fun _ _ _ h => h
          case yE_29_10 => (intro w hSw; (try dsimp only at hSw); go_simp; try with_reducible rfl)
          try simp only [Act.put, List.setIfInBounds_toArray, List.set_cons_zero, List.set_cons_succ]
          refine wpAnyH_take (i := 11) (oi := ?oE_30_11) (v := ?vE_30_11) ?eE_30_11 (by kernel_rfl) (by kernel_rfl) (by kernel_rfl) ?qE_30_11 (Or.inl ⟨?wE_30_11, ?yE_30_11⟩) (by assumption) ?rE_30_11
          case eE_30_11 => simp only [List.getElem?_toArray, List.getElem?_cons_succ, List.getElem?_cons_zero]; rfl
          case wE_30_11 => rfl
          case qE_30_11 => exact fun _ _ _ h => h
          case yE_30_11 => (intro w hSw; (try dsimp only at hSw); go_simp; try with_reducible rfl)
          try simp only [Act.put, List.setIfInBounds_toArray, List.set_cons_zero, List.set_cons_succ]
          refine wpAnyH_done (by kernel_rfl) ?_ _
          have r0 : x4.cell? ⟨eb, 1, none⟩ = some (.slice pa np pc) := hHeld.1
          have f0 := (HV5.out.out.below D4 HV5.out.lt).free 1
          have HV8 := Lib.hid (HV5.out.grow D4 h41)
          clear h41 h42 HKP HKQ D0 D4 hHeld HV5
          refine thenLast_of fun K hK => ?_
          go_wp2_with fail
          refine hK.out _ _ ?_
          clear hK r0 f0
          go_wp2_with fail
          go_roundw
          · exact ⟨k + 1, _, by go_num, by omega, HV8.out⟩
          · simp only [intOf]; omega
        · have u1 : ¬ (k : Int) < (n : Int) := by omega
          obtain rfl : k = n := by omega
          have HV3 : Hid (WgAt w.heap.size eb v av (wAdds v.levels (i + 1)) w1 wr) := by
            have h1 := HV2.out
            rw [show l.take k = l by rw [← HN.out, List.take_length], ← HWN.out] at h1
            exact h1
          clear HV2
          go_wp2_with fail
          go_roundw
          · exact ⟨i + 1, _, by go_num, by omega, HV3.out⟩
          · simp only [intOf]; omega
    · have t1 : ¬ (i : Int) < 5 := by omega
      obtain rfl : i = 5 := by omega
      go_wp2_with fail
      go_end0
      exact ⟨av, w1, rfl, HB1.out, HV.out⟩
set_option maxRecDepth 100000 in
set_option maxHeartbeats 2000000 in
theorem edit_any (F : Nat → Prop) (vb ob : Nat) (T : TypeId) (v : Ver) (lv : Value) (w : World) (ho : Blk w ob #[.func (.func 83) #[] #[.pointer (some ⟨vb, 0, none⟩)], .func (.func 84) #[] #[.pointer (some ⟨vb, 0, none⟩)]] T) (hv : Blk w vb (verCells v lv).toArray 25) (h : Rw (rowK filK) F w lv v.levels) (hck : chkW v = 0) :
    Calls Try.prog 85 #[.slice (some ⟨ob, 0, none⟩) 2 2] w fun e w' => ∃ av, e = .returned (.agg #[.slice none 0 0, av, .int .u64 v.next, .int .u64 v.seq, .int .u64 v.log]) ∧ Rw addK (fun k => w.heap.size ≤ k) w' av (wAdds v.levels 5) ∧ Below w.heap.size w w' := by
  have HO := Lib.hid ho
  have HV := Lib.hid hv
  have HR : Hid (Rw (rowK filK) (fun k => k < w.heap.size) w lv v.levels) := h.mono fun k hk _ => hk
  have HC := Lib.hid hck
  clear ho hv h hck
  go_enter Try.func85, Try.ntmps85
  go_upto_region 2 with fail
  refine wp_gen fun w1 hw1 => ?_
  have HR1 : Hid (Blk w1 w.heap.size zero5 57) := by rw [hw1]; exact (Blk.at_new rfl rfl).alloc _
  have HE1 : Hid (Blk w1 (w.heap.size + 1) zero5 57) := by rw [hw1]; exact blk_two _ _ _ _
  have HW1 : Hid (Below w.heap.size w w1) := by rw [hw1]; exact below_two _ _ _
  clear hw1
  obtain ⟨rb, hrb⟩ : ∃ b, w.heap.size = b := ⟨_, rfl⟩
  obtain ⟨eb, heb⟩ : ∃ b, w.heap.size + 1 = b := ⟨_, rfl⟩
  have HNE : Hid (w.heap.size ≤ rb ∧ w.heap.size ≤ eb ∧ rb ≠ eb) := ⟨by omega, by omega, by omega⟩
  rw [heb] at HE1 ⊢
  rw [hrb] at HR1 ⊢
  have HOL : Hid (ob < w.heap.size ∧ vb < w.heap.size) := ⟨HO.out.lt, HV.out.lt⟩
  have HO1 := Lib.hid (HO.out.below HW1.out HO.out.lt)
  have HV1 := Lib.hid (HV.out.below HW1.out HV.out.lt)
  clear heb hrb
  have o0 : w1.cell? ⟨ob, 0, none⟩ = some (.func (.func 83) #[] #[.pointer (some ⟨vb, 0, none⟩)]) := HO1.out.cell rfl
  have hbd1 : ∀ (args : Array Value) (w : World), (callFunc 83 args).run Try.prog w = .ok (.enter 83 args) w := fun _ _ => by kernel_rfl
  have hbd2 : ∀ (args : Array Value) (w : World), (callFunc 84 args).run Try.prog w = .ok (.enter 84 args) w := fun _ _ => by kernel_rfl
  go_wp2_with fail
  refine wp_loop_rounds 3 ?_
  rw [rounds_succ]
  go_wp2_with fail
  clear o0
  refine Calls.mono (whole1_any vb eb v lv w1 HV1.out HE1.out (by have := HNE.out; have := HOL.out; omega)) ?_
  rintro _ w2 ⟨rfl, he2, hw2⟩
  have HE2 := Lib.hid he2
  have HWR2 := Lib.hid hw2
  have HO2 : Hid (Blk w2 ob _ T) := HO1.out.same (hw2.block ob HO1.out.lt (by have := HNE.out; have := HOL.out; omega))
  have HV2 : Hid (Blk w2 vb _ _) := HV1.out.same (hw2.block vb HV1.out.lt (by have := HNE.out; have := HOL.out; omega))
  have HR2 : Hid (Rw (rowK filK) (fun k => k < w.heap.size) w2 lv v.levels) := (HR.out.below HW1.out).keep fun k hk hF => hw2.block k hk (by have := HNE.out; omega)
  have HZ2 : Hid (Blk w2 rb zero5 57) := HR1.out.same (hw2.block rb HR1.out.lt HNE.out.2.2)
  have HW2 : Hid (Below w.heap.size w w2) := HW1.out.trans (hw2.below HW1.out.size fun k hk => by rw [hk]; exact HNE.out.2.1)
  clear he2 hw2 HE1 HO1 HV1 HR HR1 HW1 HO HV
  have o1 : w2.cell? ⟨ob, 1, none⟩ = some (.func (.func 84) #[] #[.pointer (some ⟨vb, 0, none⟩)]) := HO2.out.cell rfl
  go_wp2_with fail
  rw [rounds_succ]
  go_wp2_with fail
  clear o1
  refine Calls.mono (whole2_any _ vb eb v lv w2 HV2.out HE2.out HR2.out HC.out) ?_
  rintro _ w3 ⟨av, w0, rfl, hb0, hg⟩
  have HG := Lib.hid hg
  have HB0 := Lib.hid hb0
  obtain ⟨pa, pc, rfl⟩ := hg.row.isSlice
  obtain ⟨np, hnp⟩ : ∃ x, (wAdds v.levels 5).length = x := ⟨_, rfl⟩
  rw [hnp] at HG
  have HZ3 : Hid (Blk w3 rb zero5 57) := (HZ2.out.below hb0 HZ2.out.lt).same (hg.wr.block rb (Nat.lt_of_lt_of_le HZ2.out.lt hb0.size) HNE.out.2.2)
  have HW3 : Hid (Below w.heap.size w w3) := by
    have h1 := HW2.out.trans (hb0.mono HW2.out.size)
    exact h1.trans (hg.wr.below h1.size fun k hk => by rw [hk]; exact HNE.out.2.1)
  have HZ2L : Hid (rb < w2.heap.size ∧ w.heap.size ≤ w2.heap.size) := ⟨HZ2.out.lt, HW2.out.size⟩
  have HZL : Hid (rb < w0.heap.size) := Nat.lt_of_lt_of_le HZ2.out.lt hb0.size
  clear hg hb0 hnp HZ2 HW2 HE2 HO2 HV2 HR2 HWR2
  obtain ⟨z0, z1, z2, z3, z4, f0, f1, f2, f3, f4⟩ := zero5_cells HZ3.out
  have y0 : w3.cell? ⟨eb, 0, none⟩ = some (.slice none 0 0) := HG.out.out.cell rfl
  have y1 : w3.cell? ⟨eb, 1, none⟩ = some (.slice pa np pc) := HG.out.out.cell rfl
  have y2 : w3.cell? ⟨eb, 2, none⟩ = some (.int .u64 v.next) := HG.out.out.cell rfl
  have y3 : w3.cell? ⟨eb, 3, none⟩ = some (.int .u64 v.seq) := HG.out.out.cell rfl
  have y4 : w3.cell? ⟨eb, 4, none⟩ = some (.int .u64 v.log) := HG.out.out.cell rfl
  go_wp2_with fail
  rw [rounds_succ]
  go_wp2_with fail
  clear y0 y1 y2 y3 y4 z0 z1 z2 z3 z4 f0 f1 f2 f3 f4
  refine bodyPost_ret (results_cell1 (p := 2) rfl _ _ rb 57 #[.slice none 0 0, .slice pa np pc, .int .u64 v.next, .int .u64 v.seq, .int .u64 v.log] _ rfl (blk_set5 HZ3.out rfl _ _ _ _ _) Try.underlying57 rfl (by kernel_rfl)) rfl ?_
  refine ⟨.slice pa np pc, rfl, ?_, below_set5 HW3.out HNE.out.1⟩
  have h1 := HG.out.row.rows
  refine (h1.keep fun k hk hx => (wrote_set5 rb w3 _ _ _ _ _).block k hk fun e => ?_).mono fun k _ hx => ?_
  · have h2 := HZL.out
    have h3 := HZ2L.out.1
    rcases hx with hx | hx
    · have := (HG.out.row.lt k hx).1; omega
    · have := hx.1.1; omega
  · have h3 := HZ2L.out.2
    have h4 := HB0.out.size
    rcases hx with hx | hx
    · have := (HG.out.row.lt k hx).1; omega
    · have := hx.1.1; omega
set_option maxRecDepth 100000 in
set_option maxHeartbeats 2000000 in
theorem vwhole_any (F : Nat → Prop) (v : Ver) (lv : Value) (w : World) (h : Rw (rowK filK) F w lv v.levels) (hw : v.wf) (hfew : cntTo v.levels v.levels.length ≤ 1000000) :
    Calls Try.prog 39 #[.agg (verCells v lv).toArray] w (WholePost (wholeW v) w) := by
  have HCK := Lib.hid (fun w' (hb : Below w.heap.size w w') => check_any F v lv w' (h.below hb) hw (by omega))
  have HA : Hid (Rw (rowK filK) (fun k => k < w.heap.size) w lv v.levels) := h.mono fun k hk _ => hk
  have HWF := Lib.hid hw
  obtain ⟨xa, ca, rfl⟩ := h.isSlice
  clear h hw hfew
  obtain ⟨m5, hm⟩ : ∃ m, v.levels.length = m := ⟨_, rfl⟩
  have HM := Lib.hid hm
  rw [hm] at HCK HA ⊢
  clear hm
  unfold verCells at HCK ⊢
  go_enter Try.func39, Try.ntmps39
  go_upto_region 1 with fail
  refine wp_gen fun w1 hw1 => ?_
  have HX1 : Hid (Blk w1 w.heap.size (verCells v (.slice xa m5 ca)).toArray 25) := by rw [hw1]; exact (Blk.at_new rfl rfl).alloc _
  have HR1 : Hid (Blk w1 (w.heap.size + 1) zero5 57) := by rw [hw1]; exact blk_two _ _ _ _
  have HW1 : Hid (Below w.heap.size w w1) := by rw [hw1]; exact below_two _ _ _
  clear hw1
  obtain ⟨b1, hb1⟩ : ∃ b, w.heap.size = b := ⟨_, rfl⟩
  obtain ⟨rb, hrb⟩ : ∃ b, w.heap.size + 1 = b := ⟨_, rfl⟩
  have HNE : Hid (w.heap.size ≤ rb) := by show _ ≤ _; omega
  rw [hrb] at HR1 ⊢
  rw [hb1] at HX1 ⊢
  clear hb1 hrb
  have x0 : w1.cell? ⟨b1, 0, none⟩ = some (.slice xa m5 ca) := HX1.out.cell rfl
  have x1 : w1.cell? ⟨b1, 1, none⟩ = some (.int .u64 v.next) := HX1.out.cell rfl
  have x2 : w1.cell? ⟨b1, 2, none⟩ = some (.int .u64 v.seq) := HX1.out.cell rfl
  have x3 : w1.cell? ⟨b1, 3, none⟩ = some (.int .u64 v.log) := HX1.out.cell rfl
  go_wp2_with fail
  clear x0 x1 x2 x3
  refine Calls.mono (HCK.out _ HW1.out) ?_
  rintro _ w2 ⟨rfl, hb⟩
  have HX2 := Lib.hid (HX1.out.below hb HX1.out.lt)
  have HR2 := Lib.hid (HR1.out.below hb HR1.out.lt)
  have HW2 : Hid (Below w.heap.size w w2) := HW1.out.trans (hb.mono HW1.out.size)
  clear hb HX1 HR1 HW1 HCK
  obtain ⟨ck, hck⟩ : ∃ c, chkW v = c := ⟨_, rfl⟩
  have HC := Lib.hid hck
  rw [hck]
  clear hck
  by_cases hc0 : ck = 0
  case neg =>
    have g0 : (ck == 0) = false := by simpa using hc0
    have g1 : (ck != 0) = true := by simpa using hc0
    have HF : Hid (wholeW v = (zeroE, ck)) := by show _ = _; rw [wholeW_bad (by rw [HC.out]; exact hc0), HC.out]
    clear hc0
    obtain ⟨z0, z1, z2, z3, z4, f0, f1, f2, f3, f4⟩ := zero5_cells HR2.out
    go_wp2_with fail
    refine bodyPost_ret (results_cell_tmp1 (p := 2) (t := 3) rfl _ _ rb 57 zero5 _ rfl (blk_set5 HR2.out rfl _ _ _ _ _) Try.underlying57 rfl (by kernel_rfl)) rfl ?_
    exact wholePost_bad HF.out (below_set5 HW2.out HNE.out)
  subst hc0
  have hm5 : m5 = 5 := by rw [← HM.out]; exact (good_small HC.out).1
  subst hm5
  go_wp2_with fail
  refine calls_gen fun w3 hw3 => ?_
  have hb3 : Below w2.heap.size w2 w3 := by rw [hw3]; exact (Below.refl _ _).alloc (Nat.le_refl _) _
  obtain ⟨T, HO3⟩ : ∃ T, Hid (Blk w3 w2.heap.size #[.func (.func 83) #[] #[.pointer (some ⟨b1, 0, none⟩)], .func (.func 84) #[] #[.pointer (some ⟨b1, 0, none⟩)]] T) := ⟨_, by rw [hw3]; exact Blk.at_new rfl rfl⟩
  have HW3 : Hid (Below w.heap.size w w3) := HW2.out.trans (hb3.mono HW2.out.size)
  have HX3 := Lib.hid (HX2.out.below hb3 HX2.out.lt)
  have HR3 := Lib.hid (HR2.out.below hb3 HR2.out.lt)
  clear hw3 hb3 HX2 HR2 HW2
  refine Calls.mono (edit_any _ b1 _ _ v (.slice xa 5 ca) w3 HO3.out HX3.out (HA.out.below HW3.out) HC.out) ?_
  rintro _ w4 ⟨av, rfl, hav, hb⟩
  have HR4 := Lib.hid (HR3.out.below hb HR3.out.lt)
  have HW4 : Hid (Below w.heap.size w w4) := HW3.out.trans (hb.mono HW3.out.size)
  have HRL : Hid (rb < w3.heap.size) := HR3.out.lt
  have HAV := Lib.hid hav
  obtain ⟨pa, pc, rfl⟩ := hav.isSlice
  obtain ⟨np, hnp⟩ : ∃ x, (wAdds v.levels 5).length = x := ⟨_, rfl⟩
  rw [hnp] at HAV ⊢
  have HF : Hid (wholeW v = (wholeE v, 0)) := wholeW_ok HC.out
  obtain ⟨z0, z1, z2, z3, z4, f0, f1, f2, f3, f4⟩ := zero5_cells HR4.out
  clear hav hb hnp
  go_wp2_with fail
  clear z0 z1 z2 z3 z4 f0 f1 f2 f3 f4
  refine bodyPost_ret (results_cell_tmp1 (p := 2) (t := 3) rfl _ _ rb 57 #[.slice none 0 0, .slice pa np pc, .int .u64 v.next, .int .u64 v.seq, .int .u64 v.log] _ rfl (blk_set5 HR4.out rfl _ _ _ _ _) Try.underlying57 rfl (by kernel_rfl)) rfl ?_
  rw [HF.out]
  refine ⟨.slice none 0 0, .slice pa np pc, rfl, ⟨Rw.nil _ _ _, ?_, HWF.out.1, HWF.out.2.1, HWF.out.2.2⟩, below_set5 HW4.out HNE.out⟩
  exact (HAV.out.keep fun k hk hx => (wrote_set5 rb w4 _ _ _ _ _).block k hk fun e => by have := HRL.out; omega).any
end Go.Proofs.Ytkcohhldmhdcfaa
