/- Chapter 12's document: copied. -/
import Derived.Test.YtkcohhldmhdcfaaVgB
namespace Go.Proofs.Ytkcohhldmhdcfaa
open Go.RowKit

theorem info_rowO : (Try.prog.info? 33).map (fun i => (i.zero, i.size, i.bytes)) = some (some (.slice none 0 0), (rowK filK).sz, 24) := by kernel_rfl
/-- What lies in memory while a version is copied. -/
structure CpAt (b1 rb ob B : Nat) (v : Ver) (lv r : Value) (xs : List (List Fil)) (w0 w : World) : Prop where
  src : Blk w b1 (verCells v lv).toArray 25
  res : Blk w rb zero4 25
  out : Blk w ob (verCells v r).toArray 25
  row : ROwnF (rowK filK) (fun k => B ≤ k) B 33 w r xs
  bel : Below w0.heap.size w0 w
  lt : b1 < B ∧ rb < B ∧ ob < B ∧ B ≤ w.heap.size
  ne : ob ≠ b1 ∧ ob ≠ rb ∧ w0.heap.size ≤ ob ∧ w0.heap.size ≤ rb
theorem CpAt.below {b1 rb ob B : Nat} {v : Ver} {lv r : Value} {xs : List (List Fil)} {w0 w w' : World} (h : CpAt b1 rb ob B v lv r xs w0 w) (hb : Below w.heap.size w w') : CpAt b1 rb ob B v lv r xs w0 w' :=
  ⟨h.src.below hb h.src.lt, h.res.below hb h.res.lt, h.out.below hb h.out.lt, h.row.below hb, h.bel.trans (hb.mono h.bel.size), ⟨h.lt.1, h.lt.2.1, h.lt.2.2.1, Nat.le_trans h.lt.2.2.2 hb.size⟩, h.ne⟩
/-- A row more. -/
theorem CpAt.grow {b1 rb ob B : Nat} {v : Ver} {lv r r' : Value} {xs xs' : List (List Fil)} {w0 w w' : World} (h : CpAt b1 rb ob B v lv r xs w0 w) (hb : Below B w w') (hr : ROwnF (rowK filK) (fun k => B ≤ k) B 33 w' r' xs') (hs : B ≤ w'.heap.size) :
    CpAt b1 rb ob B v lv r' xs' w0 (w'.setCell ⟨ob, 0, none⟩ r') := by
  have hB : w0.heap.size ≤ B := by have := h.ne.2.2.1; have := h.lt.2.2.1; omega
  have ho : Blk w' ob (verCells v r).toArray 25 := h.out.below hb h.lt.2.2.1
  have hb0 : Below w0.heap.size w0 w' := h.bel.trans (hb.mono hB)
  refine ⟨(h.src.below hb h.lt.1).set_other _ _ h.ne.1, (h.res.below hb h.lt.2.1).set_other _ _ h.ne.2.1, ?_, ?_, hb0.setCell h.ne.2.2.1 _, ⟨h.lt.1, h.lt.2.1, h.lt.2.2.1, by simpa using hs⟩, h.ne⟩
  · exact ho.set 0 _
  · exact hr.keep fun k hk hx => heap_setCell_other _ _ _ _ (by
      show k ≠ ob
      rcases hx with e | ⟨e, -⟩
      · have := (hr.lt k e).1; have := h.lt.2.2.1; omega
      · have := h.lt.2.2.1; omega)
def CopiedPost (v : Ver) (w : World) (e : Ending) (w' : World) : Prop := ∃ r B, e = .returned (.agg (verCells v r).toArray) ∧ w.heap.size ≤ B ∧ ROwnF (rowK filK) (fun k => B ≤ k) B 33 w' r v.levels ∧ Below w.heap.size w w'
set_option maxRecDepth 100000 in
set_option maxHeartbeats 8000000 in
theorem rcopied_any (F : Nat → Prop) (v : Ver) (lv : Value) (w : World) (h : Rw (rowK filK) F w lv v.levels) (hck : chkW v = 0) :
    Calls Try.prog 78 #[.agg (verCells v lv).toArray] w (CopiedPost v w) := by
  have h5 := (good_small hck).1
  have HLE : Hid (∀ i, i < 5 → (lat v.levels i).length ≤ 10000) := fun i hi => (good_small hck).2.1 i (by omega)
  have HKY : Hid (∀ i, i < 5 → ∀ f ∈ lat v.levels i, f.least.length ≤ 4096 ∧ f.most.length ≤ 4096) := fun i hi => (good_small hck).2.2 i (by omega)
  obtain ⟨xa, ca, rfl⟩ := h.isSlice
  have HA := Lib.hid h
  have HM := Lib.hid h5
  rw [h5] at HA ⊢
  clear h h5 hck
  unfold verCells
  go_enter Try.func78, Try.ntmps78
  go_upto_region 1 with fail
  refine wp_gen fun w1 hw1 => ?_
  have HX1 : Hid (Blk w1 w.heap.size (verCells v (.slice xa 5 ca)).toArray 25) := by rw [hw1]; exact (Blk.at_new rfl rfl).alloc _
  have HZ1 : Hid (Blk w1 (w.heap.size + 1) zero4 25) := by rw [hw1]; exact blk_two _ _ _ _
  have HW1 : Hid (Below w.heap.size w w1) := by rw [hw1]; exact below_two _ _ _
  clear hw1
  obtain ⟨b1, hb1⟩ : ∃ b, w.heap.size = b := ⟨_, rfl⟩
  obtain ⟨rb, hrb⟩ : ∃ b, w.heap.size + 1 = b := ⟨_, rfl⟩
  have HNE : Hid (b1 < rb ∧ w.heap.size ≤ rb ∧ b1 = w.heap.size) := ⟨by omega, by omega, hb1.symm⟩
  rw [hrb] at HZ1 ⊢
  rw [hb1] at HX1 ⊢
  clear hb1 hrb
  have x0 : w1.cell? ⟨b1, 0, none⟩ = some (.slice xa 5 ca) := HX1.out.cell rfl
  have x1 : w1.cell? ⟨b1, 1, none⟩ = some (.int .u64 v.next) := HX1.out.cell rfl
  have x2 : w1.cell? ⟨b1, 2, none⟩ = some (.int .u64 v.seq) := HX1.out.cell rfl
  have x3 : w1.cell? ⟨b1, 3, none⟩ = some (.int .u64 v.log) := HX1.out.cell rfl
  go_upto_region 2 with fail
  clear x0 x1 x2 x3
  refine wp_gen fun w2 hw2 => ?_
  have HB2 : Hid (Below w1.heap.size w1 w2) := by rw [hw2]; exact (Below.refl _ _).alloc (Nat.le_refl _) _
  have HO2 : Hid (Blk w2 w1.heap.size (verCells v (.slice xa 5 ca)).toArray 25) := by rw [hw2]; exact Blk.at_new rfl rfl
  clear hw2
  have c0 : w2.cell? ⟨w1.heap.size, 0, none⟩ = some (.slice xa 5 ca) := HO2.out.cell rfl
  have f0 := HO2.out.free 0
  go_upto_region 3 with fail
  clear c0 f0
  refine wp_gen fun w3 hw3 => ?_
  have HC3 : Hid (CpAt b1 rb w1.heap.size w2.heap.size v (.slice xa 5 ca) (.slice none 0 0) [] w w3) := by
    have h1 := HX1.out.below HB2.out HX1.out.lt
    have h2 := HZ1.out.below HB2.out HZ1.out.lt
    have g1 := HX1.out.lt
    have g2 := HZ1.out.lt
    have g3 := HO2.out.lt
    have g4 := HNE.out
    rw [hw3]
    refine ⟨h1.set_other _ _ (by show w1.heap.size ≠ b1; omega), h2.set_other _ _ (by show w1.heap.size ≠ rb; omega), HO2.out.set 0 _, ROwnF.nil _ _ _ _ _, ((HW1.out.trans (HB2.out.mono HW1.out.size)).setCell (by show w.heap.size ≤ w1.heap.size; exact HW1.out.size) _), ⟨?_, ?_, g3, by simp⟩, ⟨by omega, by omega, HW1.out.size, g4.2.1⟩⟩
    · have := HB2.out.size; omega
    · have := HB2.out.size; omega
  have HBW : Hid (w.heap.size ≤ w2.heap.size) := Nat.le_trans HW1.out.size HB2.out.size
  clear hw3 HX1 HZ1 HW1 HB2 HO2
  generalize w1.heap.size = ob at *
  generalize w2.heap.size = B at *
  go_wp2_with fail
  go_loopw [4] (fun iv wr => ∃ (i : Nat) (r : Value), iv = .int .i64 (i : Int) ∧ i ≤ 5 ∧ Hid (CpAt b1 rb ob B v (.slice xa 5 ca) r (v.levels.take i) w wr)) (fun iv _ => 5 - (intOf iv).toNat)
  case atStart => exact ⟨0, _, rfl, by omega, HC3.out⟩
  case round =>
    obtain ⟨i, r, rfl, hi, HC⟩ := hrel
    clear HC3
    have x0 : wr.cell? ⟨b1, 0, none⟩ = some (.slice xa 5 ca) := HC.out.src.cell rfl
    by_cases hi5 : i < 5
    · have t1 : (i : Int) < 5 := by omega
      have t2 : 0 ≤ (i : Int) := by omega
      have hil : i < v.levels.length := by rw [HM.out]; exact hi5
      have HTK : Hid (v.levels.take i ++ [lat v.levels i] = v.levels.take (i + 1)) := by
        show _ = _
        rw [List.take_succ_eq_append_getElem hil]
        congr 2
        unfold lat
        simp [List.getD, hil]
      have HTL : Hid ((v.levels.take i).length < 1000000) := by show _ < _; rw [List.length_take, HM.out]; omega
      obtain ⟨ba, oa, capa, ea, _, hba, hca⟩ := levs_at (HA.out.below HC.out.bel) (by rw [HM.out]; omega)
      obtain ⟨u, hu, hcu⟩ := hca i hil
      rw [HM.out] at ea
      injection ea with e1 e2 e3
      subst e1 e3
      obtain ⟨ua, uc, rfl⟩ := hu.isSlice
      have HU := Lib.hid hu
      have HBA := Lib.hid hba
      have HLL := Lib.hid (HLE.out i hi5)
      have HKL := Lib.hid (HKY.out i hi5)
      obtain ⟨l, hl⟩ : ∃ l, lat v.levels i = l := ⟨_, rfl⟩
      rw [hl] at HU HLL HKL HTK hcu
      obtain ⟨n, hn⟩ : ∃ n, l.length = n := ⟨_, rfl⟩
      have HN := Lib.hid hn
      rw [hn] at HU HLL hcu
      have HCU := Lib.hid hcu
      clear e2 hca hu hba hil hl hn hcu
      go_wp2_with fail
      clear x0
      generalize wr = wo at *
      go_loopw [5, 6] (fun lv2 kv wr2 => ∃ (k : Nat) (lw : Value), lw = lv2 ∧ kv = .int .i64 (k : Int) ∧ k ≤ n ∧ Hid (ROwnF filK (fun j => wo.heap.size ≤ j) wo.heap.size 42 wr2 lw (l.take k)) ∧ Hid (Below wo.heap.size wo wr2)) (fun _ kv _ => n - (intOf kv).toNat)
      case atStart => exact ⟨0, _, rfl, rfl, by omega, ROwnF.nil _ _ _ _ _, Below.refl _ _⟩
      case round =>
        obtain ⟨k, lw, rfl, rfl, hk, HO, HB⟩ := hrel
        have HCr := Lib.hid (HC.out.below HB.out)
        have x0 : wr.cell? ⟨b1, 0, none⟩ = some (.slice (some ⟨ba, oa, none⟩) 5 ca) := HCr.out.src.cell rfl
        have c0 : wr.cell? ⟨ba, oa + i, none⟩ = some (.slice ua n uc) := (HB.out.cell (p := ⟨ba, oa + i, none⟩) HBA.out).trans HCU.out
        by_cases hkn : k < n
        · have u0 : n ≤ 10000 := HLL.out
          have u1 : (k : Int) < (n : Int) := by omega
          have u2 : 0 ≤ (k : Int) := by omega
          have hkl : k < l.length := by rw [HN.out]; exact hkn
          obtain ⟨bf, of, rfl, fa, fc, ga, gc, hp1, hp2, hp6⟩ := file_at (HU.out.below HB.out) HN.out hkn
          have HT2 : Hid (l.take k ++ [fat l k] = l.take (k + 1)) := by show _ = _; rw [List.take_succ_eq_append_getElem hkl, fat_eq hkl]
          have HK2 := Lib.hid (HKL.out _ (fat_mem hkl))
          have HWFF := Lib.hid (HU.out.fwf _ (fat_mem hkl))
          have HL2 : Hid ((l.take k).length < 1000000) := by show _ < _; rw [List.length_take]; omega
          obtain ⟨f, hf⟩ : ∃ f, fat l k = f := ⟨_, rfl⟩
          rw [hf] at hp1 hp2 hp6 HT2 HK2 HWFF
          have HV1 := Lib.hid hp1
          have HV2 := Lib.hid hp2
          obtain ⟨d0, d1, d2, d3, d4, d5⟩ := hp6
          obtain ⟨pa0, pc0, rfl⟩ := HO.out.isSlice
          obtain ⟨nt, hnt⟩ : ∃ x, (l.take k).length = x := ⟨_, rfl⟩
          have HNT := Lib.hid hnt
          rw [hnt] at HO ⊢
          clear hp1 hp2 hf hkl hnt
          go_wp2_with fail
          clear d0 d1 d2 d3 d4 d5 x0 c0
          refine Calls.mono (rown_any _ _ f _ _ wr HV1.out HV2.out (Nat.le_trans HK2.out.1 (by decide)) (Nat.le_trans HK2.out.2 (by decide))) ?_
          rintro _ w6 ⟨p1, p2, rfl, hp1, hp2, hb⟩
          have HO6 := Lib.hid (HO.out.below hb)
          have HB6 : Hid (Below wo.heap.size wo w6) := HB.out.trans (hb.mono HB.out.size)
          have HP1 := Lib.hid hp1
          have HP2 := Lib.hid hp2
          obtain ⟨pa, pc, rfl⟩ := hp1.isSlice
          obtain ⟨qa, qc, rfl⟩ := hp2.isSlice
          clear hp1 hp2 hb HCr
          unfold filCells
          go_wp2_with (with_reducible refine pause_append ?_)
          refine list_gen fun w7 hw7 => ?_
          have HB7 : Hid (Below w6.heap.size w6 w7) := by rw [hw7]; exact (Below.refl _ _).alloc (Nat.le_refl _) _
          have HS7 : Hid (Blk w7 w6.heap.size (filCells f (.slice pa f.least.length pc) (.slice qa f.most.length qc)).toArray 42) := by rw [hw7]; exact Blk.at_new rfl rfl
          clear hw7
          have HO7 := Lib.hid (HO6.out.below HB7.out)
          have HOB : Hid (∀ j, (Value.slice pa0 nt pc0).ownBlock = some j → j < wr.heap.size) := fun j e => (HO.out.lt j e).2
          have HW7 : Hid (Below wo.heap.size wo w7) := HB6.out.trans (HB7.out.mono HB6.out.size)
          refine Pause.go (wpList_append_elF (K := filK) 33 42 _ 80 Try.underlying33 info_filO rfl _ wo.heap.size _ (l.take k) w6.heap.size 42 _ f rfl _ _ rfl rfl rfl HO7.out HS7.out ⟨_, _, rfl, (HP1.out.below HB7.out).mono fun j hj hx => ⟨Nat.le_trans HB.out.size hx, fun e0 => by have := HOB.out j e0; omega⟩, (HP2.out.below HB7.out).mono fun j hj hx => ⟨Nat.le_trans HB.out.size hx, fun e0 => by have := HOB.out j e0; omega⟩, HWFF.out⟩ HL2.out (by decide) HW7.out.size ?_)
          intro v8 w8 hro hg
          have HO8 : Hid (ROwnF filK (fun j => wo.heap.size ≤ j) wo.heap.size 42 w8 v8 (l.take (k + 1))) := by show ROwnF _ _ _ _ _ _ _; rw [← HT2.out]; exact hro
          have HB8 : Hid (Below wo.heap.size wo w8) := HW7.out.trans (hg.below HW7.out.size fun j e0 => (HO7.out.lt j e0).1)
          clear hro hg HO7 HS7 HO6 HO HOB
          go_wp2_with fail
          go_roundw
          · exact ⟨k + 1, _, rfl, by go_num, by omega, HO8.out, HB8.out⟩
          · simp only [intOf]; omega
        · have u1 : ¬ (k : Int) < (n : Int) := by omega
          obtain rfl : k = n := by omega
          have HOl : Hid (ROwnF filK (fun j => wo.heap.size ≤ j) wo.heap.size 42 wr lw l) := by
            have h1 := HO.out
            rw [show l.take k = l by rw [← HN.out, List.take_length]] at h1
            exact h1
          obtain ⟨la, lc, rfl⟩ := HOl.out.isSlice
          have HROW := Lib.hid HCr.out.row
          have o0 : wr.cell? ⟨ob, 0, none⟩ = some r := HCr.out.out.cell rfl
          obtain ⟨ra, rc, rfl⟩ := HCr.out.row.isSlice
          obtain ⟨nr, hnr⟩ : ∃ x, (v.levels.take i).length = x := ⟨_, rfl⟩
          have HRLT : Hid (∀ j, (Value.slice ra nr rc).ownBlock = some j → j < wo.heap.size) := fun j e => (HC.out.row.lt j (by rw [hnr]; exact e)).2
          rw [hnr] at HROW o0 HCr
          clear HO hnr
          go_wp2_with (with_reducible refine pause_append ?_)
          clear o0
          refine list_gen fun w7 hw7 => ?_
          have HB7 : Hid (Below wr.heap.size wr w7) := by rw [hw7]; exact (Below.refl _ _).alloc (Nat.le_refl _) _
          have HS7 : Hid (Blk w7 wr.heap.size #[.slice la l.length lc] 33) := by rw [hw7]; exact Blk.at_new rfl rfl
          clear hw7
          have HC7 := Lib.hid (HCr.out.below HB7.out)
          refine Pause.go (wpList_append_elF (K := rowK filK) 22 33 _ 24 Try.underlying22 info_rowO rfl (fun k => B ≤ k) B _ (v.levels.take i) wr.heap.size 33 _ l rfl _ _ rfl rfl rfl HC7.out.row HS7.out ⟨_, rfl, (HOl.out.below HB7.out).rows.mono fun j hj hx => ?_⟩ HTL.out (by decide) HC7.out.lt.2.2.2 ?_)
          · have hge : wo.heap.size ≤ j := by
              rcases hx with hx | hx
              · exact (HOl.out.lt j hx).1
              · exact hx.1
            exact ⟨Nat.le_trans HC.out.lt.2.2.2 hge, fun e0 => by have := HRLT.out j e0; omega⟩
          intro v8 w8 hro hg
          have HRO : Hid (ROwnF (rowK filK) (fun k => B ≤ k) B 33 w8 v8 (v.levels.take (i + 1))) := by show ROwnF _ _ _ _ _ _ _; rw [← HTK.out]; exact hro
          have HB8 : Hid (Below B wr w8) := (HB7.out.mono HCr.out.lt.2.2.2).trans (hg.below HC7.out.lt.2.2.2 fun j e0 => (HC7.out.row.lt j e0).1)
          have HBS : Hid (B ≤ w8.heap.size) := Nat.le_trans HCr.out.lt.2.2.2 HB8.out.size
          obtain ⟨a8, c8, rfl⟩ := HRO.out.isSlice
          obtain ⟨n8, hn8⟩ : ∃ x, (v.levels.take (i + 1)).length = x := ⟨_, rfl⟩
          rw [hn8] at HRO ⊢
          clear hn8
          have o0 : w8.cell? ⟨ob, 0, none⟩ = some (.slice ra nr rc) := (HCr.out.out.below HB8.out HCr.out.lt.2.2.1).cell rfl
          have f0 := (HCr.out.out.below HB8.out HCr.out.lt.2.2.1).free 0
          clear hro hg HS7 HC7
          go_wp2_with fail
          clear o0 f0
          go_roundw
          · exact ⟨i + 1, _, by go_num, by omega, CpAt.grow HCr.out HB8.out HRO.out HBS.out⟩
          · simp only [intOf]; omega
    · have t1 : ¬ (i : Int) < 5 := by omega
      obtain rfl : i = 5 := by omega
      have HTL : Hid (v.levels.take 5 = v.levels) := by show _ = _; rw [← HM.out, List.take_length]
      rw [HTL.out] at HC
      have hsl := HC.out.row.isSlice
      rw [HM.out] at hsl
      obtain ⟨ra, rc, rfl⟩ := hsl
      have o0 : wr.cell? ⟨ob, 0, none⟩ = some (.slice ra 5 rc) := HC.out.out.cell rfl
      have o1 : wr.cell? ⟨ob, 1, none⟩ = some (.int .u64 v.next) := HC.out.out.cell rfl
      have o2 : wr.cell? ⟨ob, 2, none⟩ = some (.int .u64 v.seq) := HC.out.out.cell rfl
      have o3 : wr.cell? ⟨ob, 3, none⟩ = some (.int .u64 v.log) := HC.out.out.cell rfl
      obtain ⟨z0, z1, z2, z3, f0, f1, f2, f3⟩ := zero4_cells HC.out.res
      go_wp2_with fail
      clear x0 o0 o1 o2 o3 z0 z1 z2 z3 f0 f1 f2 f3
      refine bodyPost_ret (results_cell1 (p := 2) rfl _ _ rb 25 (verCells v (.slice ra 5 rc)).toArray _ rfl ((((HC.out.res.set 0 _).set 1 _).set 2 _).set 3 _) Try.underlying25 rfl (by kernel_rfl)) rfl ?_
      have hwr : Wrote (fun k => k = rb) wr ((((wr.setCell ⟨rb, 0, none⟩ (.slice ra 5 rc)).setCell ⟨rb, 1, none⟩ (.int .u64 v.next)).setCell ⟨rb, 2, none⟩ (.int .u64 v.seq)).setCell ⟨rb, 3, none⟩ (.int .u64 v.log)) :=
        Wrote.setCell (S := fun k => k = rb) (Wrote.setCell (S := fun k => k = rb) (Wrote.setCell (S := fun k => k = rb) (Wrote.setCell (S := fun k => k = rb) (Wrote.of_below (Below.refl _ _)) _ _ (.inl rfl)) _ _ (.inl rfl)) _ _ (.inl rfl)) _ _ (.inl rfl)
      refine ⟨_, B, rfl, HBW.out, HC.out.row.keep fun k hk hx => hwr.block k hk fun e => ?_, below_set4 HC.out.bel HNE.out.2.1⟩
      have := HC.out.lt.2.1
      rcases hx with hx | hx
      · have := (HC.out.row.lt k hx).1
        omega
      · have := hx.1
        omega
end Go.Proofs.Ytkcohhldmhdcfaa
