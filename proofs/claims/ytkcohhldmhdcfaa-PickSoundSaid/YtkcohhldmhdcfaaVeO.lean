/- Chapter 12: version.Overlap. -/
import Derived.Test.YtkcohhldmhdcfaaVeN
namespace Go.Proofs.Ytkcohhldmhdcfaa
open Go.RowKit

theorem run_levels0 (a : Option Addr) (n c : Nat) (w : World) : (Instr.field 95 (.agg #[.slice a n c]) 0).run Try.prog w = .ok (.slice a n c) w := by kernel_rfl
set_option maxRecDepth 100000 in
set_option maxHeartbeats 4000000 in
theorem overlap_any (F L M : Nat → Prop) (v : Ver) (lv : Value) (lev : Int) (least most : List UInt8) (ql qm : Value) (w : World) (h : Rw (rowK filK) F w lv v.levels) (hw : v.wf) (hfew : cntTo v.levels v.levels.length ≤ 1000000) (hlev : i64In lev) (hql : Bytes L w ql least) (hqm : Bytes M w qm most) :
    Calls Try.prog 44 #[.agg (verCells v lv).toArray, .int .i64 lev, ql, qm] w fun e w' => ∃ r, e = .returned r ∧ Rw filK (fun k => w.heap.size ≤ k) w' r (overB v lev least most) ∧ Below w.heap.size w w' := by
  obtain ⟨xa, ca, rfl⟩ := h.isSlice
  obtain ⟨la, lc, rfl⟩ := hql.isSlice
  obtain ⟨ma, mc, rfl⟩ := hqm.isSlice
  have HA : Hid (Rw (rowK filK) (· < w.heap.size) w (.slice xa v.levels.length ca) v.levels) := h.mono fun k hk _ => hk
  have HCK := Lib.hid (fun w' (hb : Below w.heap.size w w') => check_any F v _ w' (h.below hb) hw hfew)
  have HQL := Lib.hid hql
  have HQM := Lib.hid hqm
  clear h hql hqm
  obtain ⟨m, hm1⟩ : ∃ m, v.levels.length = m := ⟨_, rfl⟩
  have HM := Lib.hid hm1
  rw [hm1] at HA HCK
  unfold verCells at *
  rw [hm1]
  clear hm1
  go_enter Try.func44, Try.ntmps44
  go_upto_region 1 with fail
  refine wp_gen fun w1 hw1 => ?_
  have HX1 : Hid (Blk w1 w.heap.size (verCells v (.slice xa m ca)).toArray 25) := by rw [hw1]; exact Blk.at_new rfl rfl
  have HW1 : Hid (Below w.heap.size w w1) := by rw [hw1]; exact (Below.refl _ _).alloc (Nat.le_refl _) _
  clear hw1
  have x0 : w1.cell? ⟨w.heap.size, 0, none⟩ = some (.slice xa m ca) := HX1.out.cell rfl
  have x1 : w1.cell? ⟨w.heap.size, 1, none⟩ = some (.int .u64 v.next) := HX1.out.cell rfl
  have x2 : w1.cell? ⟨w.heap.size, 2, none⟩ = some (.int .u64 v.seq) := HX1.out.cell rfl
  have x3 : w1.cell? ⟨w.heap.size, 3, none⟩ = some (.int .u64 v.log) := HX1.out.cell rfl
  go_wp2_with fail
  clear x0 x1 x2 x3
  refine Calls.mono (HCK.out _ HW1.out) ?_
  rintro _ w2 ⟨rfl, hb⟩
  have HX2 : Hid (Blk w2 w.heap.size (verCells v (.slice xa m ca)).toArray 25) := HX1.out.below hb HX1.out.lt
  have HW2 : Hid (Below w.heap.size w w2) := HW1.out.trans (hb.mono HW1.out.size)
  clear hb HX1 HW1
  obtain ⟨ck, hck⟩ : ∃ c, chkW v = c := ⟨_, rfl⟩
  have HK := Lib.hid hck
  rw [hck]
  clear hck
  have hnil : ∀ (hn : ¬ (chkW v = 0 ∧ 0 ≤ lev ∧ lev < v.levels.length)), Rw filK (fun k => w.heap.size ≤ k) w2 (.slice none 0 0) (overB v lev least most) := fun hn => by
    unfold overB
    rw [if_neg hn]
    exact (ROwnF.nil filK (fun _ => False) w.heap.size 0 w2).rows.mono fun _ _ hk => hk.elim (fun e => by cases e) fun e => e.1.elim
  by_cases hc0 : ck = 0
  case neg =>
    have g0 : (ck == 0) = false := by simpa using hc0
    have g1 : (ck != 0) = true := by simpa using hc0
    have HF := Lib.hid (hnil fun e => hc0 (by rw [← HK.out]; exact e.1))
    clear hc0 hnil
    go_wp2_with fail
    go_ret
    exact ⟨_, rfl, HF.out, HW2.out⟩
  subst hc0
  have x0 : w2.cell? ⟨w.heap.size, 0, none⟩ = some (.slice xa m ca) := HX2.out.cell rfl
  by_cases hl0 : 0 ≤ lev
  case neg =>
    have g0 : lev < 0 := by omega
    have HF := Lib.hid (hnil fun e => hl0 e.2.1)
    clear hl0 hnil
    go_wp2_with fail
    go_ret
    exact ⟨_, rfl, HF.out, HW2.out⟩
  by_cases hl1 : lev < m
  case neg =>
    have g0 : (m : Int) ≤ lev := by omega
    have HF := Lib.hid (hnil fun e => hl1 (by rw [← HM.out]; exact e.2.2))
    clear hl1 hnil
    go_wp2_with fail
    go_ret
    exact ⟨_, rfl, HF.out, HW2.out⟩
  clear hnil
  obtain ⟨i, rfl⟩ : ∃ i : Nat, lev = (i : Int) := ⟨lev.toNat, by omega⟩
  have hi : i < m := by omega
  have hil : i < v.levels.length := by rw [HM.out]; exact hi
  have HGS := Lib.hid (good_small HK.out)
  have HRES : Hid (overB v (i : Int) least most = (lat v.levels i).filter (lapB least most)) := by
    show _ = _
    unfold overB
    rw [if_pos ⟨HK.out, by omega, by omega⟩]
    rfl
  have t1 : (i : Int) < (m : Int) := by omega
  have t2 : ¬ (m : Int) ≤ (i : Int) := by omega
  have t3 : ¬ (i : Int) < 0 := by omega
  have HVC := Lib.hid (vclone_any (· < w.heap.size) (.slice xa m ca) v.levels w2 (HA.out.keep fun k _ hk => HW2.out.block k hk) HGS.out.1 (fun i hi => Nat.le_trans (HGS.out.2.1 i hi) (by decide)) (fun i hi f hf => ⟨Nat.le_trans (HGS.out.2.2 i hi f hf).1 (by decide), Nat.le_trans (HGS.out.2.2 i hi f hf).2 (by decide)⟩))
  clear hl0 hl1 HCK
  go_wp2_with fail
  refine Calls.mono HVC.out ?_
  rintro _ w3 ⟨g, us, rfl, hf3, hb3⟩
  have HUS : Hid (us.length = 5) := by show _ = _; rw [hf3.len]; exact HGS.out.1
  have hm5 : m = 5 := by rw [← HM.out]; exact HGS.out.1
  obtain ⟨g', gcap, ev, _, hg, hcell, _⟩ := vals_at hf3.arr (by rw [HUS.out]; omega)
  rw [HUS.out] at ev
  injection ev with ev1 ev2 ev3
  injection ev1 with ev1
  injection ev1 with ev1
  subst ev1 ev3
  have hrow := hf3.row i (by rw [HUS.out]; omega)
  have hum := hcell i (by rw [HUS.out]; omega)
  rw [show v.levels.getD i [] = lat v.levels i from rfl] at hrow
  obtain ⟨l, hl⟩ : ∃ l, lat v.levels i = l := ⟨_, rfl⟩
  rw [hl] at hrow HRES
  have hll : l.length ≤ 10000 := by rw [← hl]; exact HGS.out.2.1 i hil
  obtain ⟨ra, rc, hu⟩ := hrow.isSlice
  rw [hu] at hrow hum
  have HROW : Hid (Rw filK (fun k => w.heap.size ≤ k ∧ k < w3.heap.size) w3 (.slice ra l.length rc) l) := hrow.rows.mono fun k hk hx => ⟨Nat.le_trans HW2.out.size (hx.elim (fun e => (hrow.lt k e).1) fun e => e.1.1), hk⟩
  have HW3 : Hid (Below w.heap.size w w3) := HW2.out.trans (hb3.mono HW2.out.size)
  have HL3 : Hid (Bytes L w3 (.slice la least.length lc) least) := HQL.out.below HW3.out
  have HM3 : Hid (Bytes M w3 (.slice ma most.length mc) most) := HQM.out.below HW3.out
  obtain ⟨n, hn⟩ : ∃ n, l.length = n := ⟨_, rfl⟩
  have HLN := Lib.hid hn
  rw [hn] at HROW hum hll
  subst hm5
  clear hf3 hb3 ev2 hg hcell hrow hu hn hl hil HVC HX2 HA HQL HQM HW2 HGS
  have t4 : (i : Int) < 5 := t1
  have t5 : 0 ≤ (i : Int) := by omega
  have hfld := run_levels0
  have c0 : w3.cell? ⟨g, 0 + i, none⟩ = some (.slice ra n rc) := by rw [Nat.zero_add]; exact hum
  go_wp2_with fail
  clear c0 x0 hum
  go_loopw [9, 35] (fun ov kv wr => ∃ (k : Nat) (u : Value), u = ov ∧ kv = .int .i64 (k : Int) ∧ k ≤ n ∧ Hid (ROwnF filK (fun k => w.heap.size ≤ k ∧ k < w3.heap.size) w3.heap.size 42 wr ov ((l.take k).filter (lapB least most))) ∧ Hid (Below w3.heap.size w3 wr)) (fun _ kv _ => n - (intOf kv).toNat)
  case atStart => exact ⟨0, _, rfl, rfl, by omega, ROwnF.nil _ _ _ _ _, Below.refl _ _⟩
  case round =>
    obtain ⟨k, u, rfl, rfl, hk, HO, HB⟩ := hrel
    by_cases hkn : k < n
    · have t6 : (k : Int) < (n : Int) := by omega
      have t7 : 0 ≤ (k : Int) := by omega
      have hkl : k < l.length := by rw [HLN.out]; exact hkn
      obtain ⟨bf, of, capf, ef, _, hbf, hcf⟩ := fils_at HROW.out (by omega)
      obtain ⟨vl, vm, hvl, hvm, hwf, hc6⟩ := hcf k hkl
      injection ef with e1 e2 e3
      subst e1 e3
      clear e2 hcf
      have HYES := Lib.hid (fun h => filter_take_yes (p := lapB least most) hkl h)
      have HNO := Lib.hid (fun h => filter_take_no (p := lapB least most) hkl h)
      obtain ⟨f, hf⟩ : ∃ f, fat l k = f := ⟨_, rfl⟩
      rw [hf] at hvl hvm hwf hc6 HYES HNO
      obtain ⟨fa, fc, rfl⟩ := hvl.isSlice
      obtain ⟨ga2, gc2, rfl⟩ := hvm.isSlice
      have HWF := Lib.hid hwf
      obtain ⟨c0, c1, c2, c3, c4, c5⟩ := hc6.keep HB.out hbf
      have HVL := Lib.hid (hvl.below HB.out)
      have HVM := Lib.hid (hvm.below HB.out)
      have HLb := Lib.hid (HL3.out.below HB.out)
      have HMb := Lib.hid (HM3.out.below HB.out)
      obtain ⟨oa, oc, rfl⟩ := HO.out.isSlice
      obtain ⟨out, hout⟩ : ∃ o, (l.take k).filter (lapB least most) = o := ⟨_, rfl⟩
      have HOL : Hid (out.length < 1000000) := by
        show _ < _
        rw [← hout]
        have h1 := List.length_filter_le (lapB least most) (l.take k)
        rw [List.length_take] at h1
        omega
      rw [hout] at HO HYES HNO ⊢
      clear hvl hvm hwf hf hc6 hkl hout
      go_upto_region 7 with fail
      clear c0 c1 c2 c3 c4 c5
      refine wp_gen fun w4 hw4 => ?_
      have HE4 : Hid (Blk w4 wr.heap.size (filCells f (.slice fa f.least.length fc) (.slice ga2 f.most.length gc2)).toArray 42) := by rw [hw4]; exact Blk.at_new rfl rfl
      have HW4 : Hid (Below wr.heap.size wr w4) := by rw [hw4]; exact (Below.refl _ _).alloc (Nat.le_refl _) _
      clear hw4
      obtain ⟨c0, c1, c2, c3, c4, c5⟩ := C6.blk HE4.out
      go_wp2_with fail
      clear c0 c1 c2 c3 c4 c5
      obtain ⟨r, hr⟩ : ∃ r, lapB least most f = r := ⟨_, rfl⟩
      have HR := Lib.hid hr
      refine Calls.mono (laps_at _ _ _ _ f _ _ least most _ _ w4 (HVL.out.below HW4.out) (HVM.out.below HW4.out) (HLb.out.below HW4.out) (HMb.out.below HW4.out) hr) ?_
      rintro _ w5 ⟨rfl, hb5⟩
      have HB5 : Hid (Below wr.heap.size wr w5) := HW4.out.trans (hb5.mono HW4.out.size)
      have HE5 : Hid (Blk w5 wr.heap.size (filCells f (.slice fa f.least.length fc) (.slice ga2 f.most.length gc2)).toArray 42) := HE4.out.below hb5 HE4.out.lt
      have HO5 := Lib.hid (HO.out.below HB5.out)
      have HVL5 := Lib.hid (HVL.out.below HB5.out)
      have HVM5 := Lib.hid (HVM.out.below HB5.out)
      have HW5 : Hid (Below w3.heap.size w3 w5) := HB.out.trans (HB5.out.mono HB.out.size)
      clear hb5 hr HE4 HW4 HO HVL HVM HB HLb HMb HB5
      cases r with
      | false =>
        have HN := Lib.hid (HNO.out HR.out)
        go_wp2_with fail
        go_roundw
        · exact ⟨k + 1, _, rfl, by go_num, by omega, by rw [HN.out]; exact HO5.out, HW5.out⟩
        · simp only [intOf]; omega
      | true =>
        have HY := Lib.hid (HYES.out HR.out)
        obtain ⟨c0, c1, c2, c3, c4, c5⟩ := C6.blk HE5.out
        go_wp2_with (with_reducible refine pause_append ?_)
        clear c0 c1 c2 c3 c4 c5
        refine list_gen fun w6 hw6 => ?_
        have HB6 : Hid (Below w5.heap.size w5 w6) := by rw [hw6]; exact (Below.refl _ _).alloc (Nat.le_refl _) _
        have HS6 : Hid (Blk w6 w5.heap.size (filCells f (.slice fa f.least.length fc) (.slice ga2 f.most.length gc2)).toArray 42) := by rw [hw6]; exact Blk.at_new rfl rfl
        clear hw6
        have HO6 := Lib.hid (HO5.out.below HB6.out)
        have HSZ6 : Hid (w3.heap.size ≤ w6.heap.size) := Nat.le_trans HW5.out.size HB6.out.size
        refine Pause.go (wpList_append_elF (K := filK) 33 42 _ 80 Try.underlying33 info_filO rfl _ w3.heap.size _ out w5.heap.size 42 _ f rfl _ _ rfl rfl rfl HO6.out HS6.out ⟨_, _, rfl, (HVL5.out.below HB6.out).mono fun j hj hx => ⟨hx, fun e0 => by have := (HO6.out.lt j e0).1; omega⟩, (HVM5.out.below HB6.out).mono fun j hj hx => ⟨hx, fun e0 => by have := (HO6.out.lt j e0).1; omega⟩, HWF.out⟩ HOL.out (by decide) HSZ6.out ?_)
        intro v7 w7 hro hg
        have HO7 := Lib.hid hro
        have HB7 : Hid (Below w3.heap.size w3 w7) := (HW5.out.trans (HB6.out.mono HW5.out.size)).trans (hg.below HSZ6.out fun j e0 => (HO6.out.lt j e0).1)
        clear hro hg HO6 HS6 HO5
        go_wp2_with fail
        go_roundw
        · exact ⟨k + 1, _, rfl, by go_num, by omega, by rw [HY.out]; exact HO7.out, HB7.out⟩
        · simp only [intOf]; omega
    · have t6 : ¬ (k : Int) < (n : Int) := by omega
      have hkn' : k = n := by omega
      subst hkn'
      have HP : Hid (Rw filK (fun k => w.heap.size ≤ k) wr u (overB v (i : Int) least most)) := by
        have h1 := HO.out
        rw [show l.take k = l by rw [← HLN.out, List.take_length], ← HRES.out] at h1
        exact h1.rows.mono fun j _ hj => hj.elim (fun e => Nat.le_trans HW3.out.size (h1.lt j e).1) fun hj => hj.1.1
      have HWE : Hid (Below w.heap.size w wr) := HW3.out.trans (HB.out.mono HW3.out.size)
      clear HO
      go_wp2_with fail
      go_ret
      exact ⟨_, rfl, HP.out, HWE.out⟩
end Go.Proofs.Ytkcohhldmhdcfaa
