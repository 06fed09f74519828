/- The document's answer for compact: SizeOf, Cut. -/
import Derived.Test.YtmpapipobjoboaaCoO
namespace Go.Proofs.Ytmpapipobjoboaa
open Go.RowKit

theorem sizeE_take {l : List Ent} {j : Nat} (h : j < l.length) : sizeE (l.take (j + 1)) = sizeE (l.take j) + ((eat l j).key.length + (eat l j).value.length + 32) := by
  rw [List.take_succ_eq_append_getElem h, sizeE_snoc, eat_eq h]
theorem sizeE_le {l : List Ent} (hs : ∀ i, i < l.length → (eat l i).key.length + (eat l i).value.length ≤ 100000) : ∀ j, j ≤ l.length → sizeE (l.take j) ≤ j * 100032
  | 0, _ => by simp [sizeE]
  | j + 1, hj => by
    have h1 := sizeE_le hs j (by omega)
    have h2 := hs j (by omega)
    rw [sizeE_take (by omega)]
    omega
theorem sizeW {l : List Ent} (hfew : l.length ≤ 100000) (hs : ∀ i, i < l.length → (eat l i).key.length + (eat l i).value.length ≤ 100000) {j : Nat} (hj : j < l.length) {c : Int} (hc : c = sizeE (l.take j)) :
    IntKind.i64.wrap (IntKind.i64.wrap (IntKind.i64.wrap (c + ((eat l j).key.length : Int)) + ((eat l j).value.length : Int)) + 32) = (sizeE (l.take (j + 1)) : Int) := by
  have h1 := sizeE_le hs j (by omega)
  have h2 := hs j hj
  rw [wrap_mid (x := c + ((eat l j).key.length : Int)) (by omega) (by omega), wrap_mid (x := c + ((eat l j).key.length : Int) + ((eat l j).value.length : Int)) (by omega) (by omega), wrap_mid (by omega) (by omega), sizeE_take hj]
  omega

set_option maxRecDepth 100000 in
set_option maxHeartbeats 1000000 in
theorem sizeof_any (F : Nat → Prop) (v : Value) (l : List Ent) (w : World) (h : Rw entK F w v l) (hfew : l.length ≤ 100000) (hs : ∀ i, i < l.length → (eat l i).key.length + (eat l i).value.length ≤ 100000) :
    Calls Try.prog 48 #[v] w fun e w' => e = .returned (.int .i64 (sizeE l : Int)) ∧ ∃ n, w' = w.drewN n := by
  obtain ⟨xa, ca, rfl⟩ := h.isSlice
  have HA := Lib.hid h
  have HW := Lib.hid (fun j hj c hc => sizeW hfew hs (j := j) hj (c := c) hc)
  clear h hs
  go_enter Try.func48, Try.ntmps48
  go_wp2_with fail
  go_loopw [3, 4] (fun s i wr => ∃ (j : Nat) (c : Int), i = .int .i64 (j : Int) ∧ j ≤ l.length ∧ s = .int .i64 c ∧ Hid (c = sizeE (l.take j)) ∧ Hid (∃ n, wr = w.drewN n)) (fun _ i _ => l.length - (intOf i).toNat)
  case atStart => exact ⟨0, 0, rfl, by omega, rfl, by show _ = _; simp [sizeE], 0, rfl⟩
  case round =>
    obtain ⟨j, c, rfl, hj, rfl, HC, HD⟩ := hrel
    by_cases hlt : j < l.length
    · have hjl : (j : Int) < (l.length : Int) := by omega
      have hwc : ∀ a, wr.cell? a = w.cell? a := fun a => by obtain ⟨n, h⟩ := HD.out; rw [h]; rfl
      obtain ⟨ba, oa, capa, ea, _, hba, hca⟩ := ents_at HA.out (by omega)
      injection ea with e1 e2 e3
      subst e1 e3
      clear e2
      obtain ⟨vk, vv, hk, hv, c0, _, _, c3⟩ := hca j hlt
      obtain ⟨k1a, k1c, rfl⟩ := hk.isSlice
      obtain ⟨v1a, v1c, rfl⟩ := hv.isSlice
      have c0 := (hwc _).trans c0
      have c3 := (hwc _).trans c3
      have hcn := HW.out j hlt c HC.out
      rw [← eat_eq hlt] at hcn
      have HCn := Lib.hid hcn
      clear hwc hca hk hv HC hcn
      generalize l[j] = s at *
      generalize s.key.length = x at *
      generalize s.value.length = y at *
      go_wp2_with fail
      go_quiet (fail)
      all_goals
        go_wp2_with fail
        go_roundw
        · exact ⟨j + 1, _, by go_num, by omega, rfl, (by first | exact HCn | (simp only [w64_eq]; exact HCn.out)), (by first | exact HD.out | exact drewN_one HD.out | exact drewN_more HD.out _)⟩
        · simp only [intOf]; omega
    · obtain rfl : j = l.length := by omega
      have HF : Hid (c = (sizeE l : Int)) := by have := HC.out; rwa [List.take_of_length_le (Nat.le_refl _)] at this
      clear HC
      go_wp2_with fail
      go_ret
      exact ⟨ret_int HF.out, HD.out⟩
theorem sizeof_at (F : Nat → Prop) (v : Value) (l : List Ent) (r : Int) (w : World) (h : Rw entK F w v l) (hfew : l.length ≤ 100000) (hs : ∀ i, i < l.length → (eat l i).key.length + (eat l i).value.length ≤ 100000) (hr : (sizeE l : Int) = r) :
    Calls Try.prog 48 #[v] w fun e w' => e = .returned (.int .i64 r) ∧ Below w.heap.size w w' := by
  subst hr
  exact (sizeof_any F v l w h hfew hs).mono fun x w' ⟨h1, h2⟩ => ⟨h1, below_drewN h2⟩

def RCutPost (t : Int) (l : List Ent) (w : World) (x : Ending) (w' : World) : Prop :=
  (rowB l = true ∧ 1 ≤ t ∧ t ≤ 16777216 → ∃ a c, x = .returned (.tuple #[.slice a (cutTo t l l.length).length c, .int .i64 0]) ∧ Rw (rowK entK) Any w' (.slice a (cutTo t l l.length).length c) (cutTo t l l.length)) ∧
  (¬ (rowB l = true ∧ 1 ≤ t ∧ t ≤ 16777216) → x = .returned (.tuple #[.slice none 0 0, .int .i64 2])) ∧ Below w.heap.size w w'
theorem info_rowE : (Try.prog.info? 31).map (fun i => (i.zero, i.size, i.bytes)) = some (some (.slice none 0 0), (rowK entK).sz, 24) := by kernel_rfl

set_option maxRecDepth 100000 in
set_option maxHeartbeats 8000000 in
theorem rcut_any (F : Nat → Prop) (v : Value) (l : List Ent) (t : Int) (w : World) (h : Rw entK F w v l) (hfew : l.length ≤ 100000) (hs : ∀ i, i < l.length → (eat l i).key.length + (eat l i).value.length ≤ 100000) :
    Calls Try.prog 45 #[v, .int .i64 t] w (RCutPost t l w) := by
  have HCA := Lib.hid (fun r hr => rcheck_at F v l w h (by omega) (r := r) hr)
  obtain ⟨xa, ca, rfl⟩ := h.isSlice
  have HA : Hid (Rw entK (· < w.heap.size) w (.slice xa l.length ca) l) := h.mono fun k hk _ => hk
  have HSZ : Hid (∀ fr i, fr ≤ i → i < l.length → ∀ (F : Nat → Prop) (v : Value) (w : World) (r : Int), Rw entK F w v (partOf l fr (i + 1)) → (sizeE (partOf l fr (i + 1)) : Int) = r → Calls Try.prog 48 #[v] w fun e w' => e = .returned (.int .i64 r) ∧ ∃ n, w' = w.drewN n) := fun fr i h1 h2 F v w r hR hr => by
    subst hr
    exact sizeof_any F v _ w hR (by rw [partOf_len (by omega)]; omega) (fun j hj => by rw [partOf_len (by omega)] at hj; rw [partOf_eat hj]; exact hs _ (by omega))
  clear h hs
  obtain ⟨n, hn⟩ : ∃ n, l.length = n := ⟨_, rfl⟩
  have HN := Lib.hid hn
  rw [hn] at HA HCA hfew HSZ
  rw [hn]
  clear hn
  go_enter Try.func45, Try.ntmps45
  go_wp2_with fail
  cases hrb : rowB l with
  | false =>
    refine Calls.mono (HCA.out 2 (by unfold chkE; rw [hrb]; rfl)) ?_
    rintro _ w1 ⟨rfl, hb⟩
    have HP : Hid (RCutPost t l w (.returned (.tuple #[.slice none 0 0, .int .i64 2])) w1) := ⟨(fun e => by rw [hrb] at e; cases e.1), fun _ => rfl, hb⟩
    clear hb hrb HCA
    go_wp2_with fail
    go_ret2
    exact HP.out
  | true =>
    refine Calls.mono (HCA.out 0 (by unfold chkE; rw [hrb]; rfl)) ?_
    rintro _ w1 ⟨rfl, hb⟩
    have HW1 := Lib.hid hb
    have HRB := Lib.hid hrb
    clear hb hrb HCA
    by_cases ht1 : t < 1
    · have HP : Hid (RCutPost t l w (.returned (.tuple #[.slice none 0 0, .int .i64 2])) w1) := ⟨(fun e => by omega), fun _ => rfl, HW1.out⟩
      go_wp2_with fail
      go_ret2
      exact HP.out
    by_cases ht2 : 16777216 < t
    · have HP : Hid (RCutPost t l w (.returned (.tuple #[.slice none 0 0, .int .i64 2])) w1) := ⟨(fun e => by omega), fun _ => rfl, HW1.out⟩
      go_wp2_with fail
      go_ret2
      exact HP.out
    have HT : Hid (1 ≤ t ∧ t ≤ 16777216) := ⟨by omega, by omega⟩
    go_wp2_with fail
    go_loopw [6, 7, 8] (fun ov fv iv wr => ∃ (i fr : Nat) (fs : List (List Ent)), iv = .int .i64 (i : Int) ∧ i ≤ n ∧ fv = .int .i64 (fr : Int) ∧ fr ≤ i ∧ fs.length ≤ i ∧ Hid (CutR t l i fs fr) ∧ Hid (ROwnF (rowK entK) (· < w.heap.size) w.heap.size 31 wr ov fs) ∧ Hid (Below w.heap.size w wr)) (fun _ _ iv _ => n - (intOf iv).toNat)
    case atStart => exact ⟨0, 0, [], rfl, by omega, rfl, by omega, by simp, CutR.start t l, ROwnF.nil _ _ _ _ _, HW1.out⟩
    case round =>
      obtain ⟨i, fr, fs, rfl, hi, rfl, hfr, hfs, HCR, HRO, HB⟩ := hrel
      obtain ⟨oo, oc, rfl⟩ := HRO.out.isSlice
      clear HW1
      by_cases hlt : i < n
      · have t1 : (i : Int) < (n : Int) := by omega
        have t3 : 0 ≤ (i : Int) := by omega
        have HAr := Lib.hid (HA.out.below HB.out)
        obtain ⟨ba, oa, capa, ea, _, hba, hca⟩ := ents_at HAr.out (by rw [HN.out]; omega)
        injection ea with e1 e2 e3
        subst e1 e3
        clear e2
        have HCA : Hid (∀ i, i < n → ∃ vk vv, Bytes (· < w.heap.size) wr vk (eat l i).key ∧ Bytes (· < w.heap.size) wr vv (eat l i).value ∧ C4o ba (oa + i * 4) (eat l i) vk vv wr) := by
          intro i hi
          have hil : i < l.length := by rw [HN.out]; exact hi
          obtain ⟨vk, vv, g1, g2, g3⟩ := hca i hil
          rw [eat_eq hil] at g1 g2 g3
          exact ⟨vk, vv, g1, g2, g3⟩
        have HBA : Hid (ba < wr.heap.size) := hba
        clear hca hba
        obtain ⟨sv, hsl, hsw⟩ := HAr.out.slice_lh under_entsP size_entsP fr (i + 1) (by omega) (by rw [HN.out]; omega)
        have hsw' : Rw entK (· < w.heap.size) wr sv (partOf l fr (i + 1)) := hsw
        clear hsw
        have HSC := Lib.hid (fun F v w r => HSZ.out fr i hfr hlt F v w r)
        have HYES := Lib.hid (fun hc => HCR.out.yes (by rw [HN.out]; exact hlt) hc)
        have HNOT := Lib.hid (fun hc => HCR.out.no (by rw [HN.out]; exact hlt) hc)
        obtain ⟨g, hg⟩ : ∃ g, partOf l fr (i + 1) = g := ⟨_, rfl⟩
        rw [hg] at hsw' HSC HYES HNOT
        clear hg
        obtain ⟨sa, sc, rfl⟩ := hsw'.isSlice
        have HSW := Lib.hid hsw'
        clear hsw'
        obtain ⟨q, hq⟩ : ∃ q, g.length = q := ⟨_, rfl⟩
        have HQ := Lib.hid hq
        rw [hq] at hsl HSW
        clear hq
        have hsl2 : ∀ w', (Instr.slice 31 (.slice (some ⟨ba, oa, none⟩) n ca) (some (.int .i64 (fr : Int))) (some (.int .i64 ((i : Int) + 1))) none).run Try.prog w' = .ok (.slice sa q sc) w' := fun w' => by have := hsl w'; push_cast at this; exact this
        have HSL := Lib.hid hsl2
        clear hsl hsl2
        obtain ⟨sz, hsz⟩ : ∃ sz, sizeE g = sz := ⟨_, rfl⟩
        have HZ := Lib.hid hsz
        clear hsz
        go_upto_region 8 with fail
        go_cut [53] from 26 to 52 (fun x wx => (∃ b : Bool, x = .bool b ∧ Hid (b = true ↔ (i + 1 = n ∨ (t ≤ (sz : Int) ∧ (eat l i).key ≠ (eat l (i + 1)).key)))) ∧ Hid (Below wr.heap.size wr wx))
        case first =>
          by_cases hl1 : i + 1 = n
          · have t4 : IntKind.i64.wrap ((i : Int) + 1) = (n : Int) := by rw [wrap_small (by omega) (by omega)]; omega
            have HL1 := Lib.hid hl1
            clear hl1
            go_wp2_with fail
            go_quiet (fail)
            all_goals
              go_wp2_with fail
              go_meet
              exact ⟨⟨true, rfl, by show _ ↔ _; simp [HL1.out]⟩, below_dn (Below.refl _ _) _⟩
          · have hl2 : i + 1 < n := by omega
            have t4 : IntKind.i64.wrap ((i : Int) + 1) = (i : Int) + 1 := wrap_small (by omega) (by omega)
            have t5 : ((i : Int) + 1 == (n : Int)) = false := by simp; omega
            have t6 : (i : Int) + 1 < (n : Int) := by omega
            have t7 : 0 ≤ (i : Int) + 1 := by omega
            have t8 : ((i : Int) + 1).toNat = i + 1 := by omega
            obtain ⟨pk, pv, hpk, _, hpc⟩ := HCA.out i (by omega)
            obtain ⟨ek, ev, hek, _, hec⟩ := HCA.out (i + 1) hl2
            obtain ⟨p, hp⟩ : ∃ p, eat l i = p := ⟨_, rfl⟩
            obtain ⟨e, he⟩ : ∃ e, eat l (i + 1) = e := ⟨_, rfl⟩
            have HPP := Lib.hid hp
            have HEE := Lib.hid he
            rw [hp] at hpk hpc
            rw [he] at hek hec
            clear hp he
            have HK1 := Lib.hid (hpk.below (below_drew (Below.refl _ _)))
            have HK2 := Lib.hid (hek.below (below_drew (Below.refl _ _)))
            have HG1 := Lib.hid (HSW.out.below (below_drew (Below.refl _ _)))
            have HC1 : Hid (C4o ba (oa + i * 4) p pk pv wr.drew) := hpc
            have HC2 : Hid (C4o ba (oa + (i + 1) * 4) e ek ev wr.drew) := hec
            have HZ1 : Hid (ba < wr.drew.heap.size) := HBA.out
            clear hpk hek hpc hec
            have hsl := HSL.out
            by_cases hts : t ≤ (sz : Int)
            · obtain ⟨r, hr⟩ : ∃ r, decide (p.key = e.key) = r := ⟨_, rfl⟩
              have HR := Lib.hid hr
              clear hr
              have HNF : Hid ((!r) = true ↔ (i + 1 = n ∨ (t ≤ (sz : Int) ∧ (eat l i).key ≠ (eat l (i + 1)).key))) := by
                show _ ↔ _
                rw [HPP.out, HEE.out, ← HR.out]
                simp [hts, hl1]
              clear hl1
              go_wp2_with fail
              go_region_held3 (fun w' => (w'.cell? ⟨ba, oa + i * 4, none⟩ = some pk ∧ w'.cell? ⟨ba, oa + i * 4 + 1, none⟩ = some (.int .u64 p.seq) ∧ w'.cell? ⟨ba, oa + i * 4 + 2, none⟩ = some (.int .i64 p.kind) ∧ w'.cell? ⟨ba, oa + i * 4 + 3, none⟩ = some pv) ∧ (w'.cell? ⟨ba, oa + (i + 1) * 4, none⟩ = some ek ∧ w'.cell? ⟨ba, oa + (i + 1) * 4 + 1, none⟩ = some (.int .u64 e.seq) ∧ w'.cell? ⟨ba, oa + (i + 1) * 4 + 2, none⟩ = some (.int .i64 e.kind) ∧ w'.cell? ⟨ba, oa + (i + 1) * 4 + 3, none⟩ = some ev))
                (first | exact ⟨HC1.out, HC2.out⟩ | exact ⟨HC1.out.keep hbx1 HZ1.out, HC2.out.keep hbx1 HZ1.out⟩ | exact ⟨HC1.out.keep (hbx1.trans (hbx2.mono hbx1.size)) HZ1.out, HC2.out.keep (hbx1.trans (hbx2.mono hbx1.size)) HZ1.out⟩)
                (first
                  | (go_at_call 48; refine Calls.mono (HSC.out _ _ _ (sz : Int) HG1.out (by rw [HZ.out])) ?_; rintro _ x1 ⟨rfl, hd1⟩; have hbx1 := below_drewN hd1; clear hd1)
                  | (go_at_call 71; refine Calls.mono (rsame15_at _ _ p e r HR.out pk pv ek ev _ (HK1.out.below hbx1) (HK2.out.below hbx1)) ?_; rintro _ x2 ⟨rfl, hbx2⟩; skip))
              have HBX : Hid (Below wr.heap.size wr x2) := below_of_drew (hbx1.trans (hbx2.mono hbx1.size))
              clear hbx1 hbx2 HC1 HC2 HK1 HK2 HG1
              go_wp2_with fail
              go_meet
              exact ⟨⟨_, rfl, HNF.out⟩, HBX.out⟩
            · have hts' : decide (t ≤ (sz : Int)) = false := decide_eq_false hts
              have HNF : Hid (¬ (i + 1 = n ∨ (t ≤ (sz : Int) ∧ (eat l i).key ≠ (eat l (i + 1)).key))) := by
                show ¬ _
                simp [hts, hl1]
              clear hl1
              go_wp2_with fail
              have hkw : ∀ m, Calls Try.prog 48 #[.slice sa q sc] (wr.drewN m) fun e w' => e = .returned (.int .i64 (sz : Int)) ∧ ∃ n, w' = (wr.drewN m).drewN n := fun m => HSC.out _ _ _ (sz : Int) (HSW.out.below (below_dn (Below.refl _ _) _)) (by rw [HZ.out])
              have HKW := Lib.hid hkw
              clear hkw HC1 HC2 HK1 HK2 HG1
              go_quiet ((go_at_call 48; refine Calls.quiet_of (HKW.out _)))
              all_goals
                go_wp2_with fail
                go_meet
                exact ⟨⟨false, rfl, by show _ ↔ _; simp only [HNF.out, Bool.false_eq_true]⟩, below_dn (Below.refl _ _) _⟩
        case rest =>
          obtain ⟨⟨b, rfl, HBB⟩, HBc⟩ := hcut
          have HROc := Lib.hid (HRO.out.below HBc.out)
          have HSWc := Lib.hid (HSW.out.below HBc.out)
          have HWc : Hid (Below w.heap.size w wc) := HB.out.trans (HBc.out.mono HB.out.size)
          clear HRO HSW HB HBc HCA HAr HSC
          cases b with
          | false =>
            have HNX : Hid (CutR t l (i + 1) fs fr) := HNOT.out (by rw [HN.out, HZ.out, ← HBB.out]; decide)
            clear HYES HNOT HBB
            go_wp2_with fail
            go_roundw
            · exact ⟨i + 1, fr, fs, by go_num, by omega, rfl, by omega, by omega, HNX.out, HROc.out, HWc.out⟩
            · simp only [intOf]; omega
          | true =>
            have HNX : Hid (CutR t l (i + 1) (fs ++ [g]) (i + 1)) := HYES.out (by rw [HN.out, HZ.out, ← HBB.out])
            clear HYES HNOT HBB
            have t4 : IntKind.i64.wrap ((i : Int) + 1) = (i : Int) + 1 := wrap_small (by omega) (by omega)
            have hsl := HSL.out
            have hfsl := Lib.hid (show fs.length < 1000000 by omega)
            go_wp2_with (with_reducible refine pause_append ?_)
            clear hsl t4
            refine list_gen fun w3 hw3 => ?_
            have HB3 : Hid (Below wc.heap.size wc w3) := by rw [hw3]; exact (Below.refl _ _).alloc (Nat.le_refl _) _
            have HS3 : Hid (Blk w3 wc.heap.size #[.slice sa q sc] 31) := by rw [hw3]; exact Blk.at_new rfl rfl
            clear hw3
            have HRO3 := Lib.hid (HROc.out.below HB3.out)
            have HG3 : Hid (Rw entK (fun k => k < w.heap.size ∧ (Value.slice oo fs.length oc).ownBlock ≠ some k) w3 (.slice sa q sc) g) := (HSWc.out.below HB3.out).mono fun k _ hk => ⟨hk, fun e0 => by have := (HROc.out.lt k e0).1; omega⟩
            refine Pause.go (wpList_append_elF (K := rowK entK) 22 31 _ 24 Try.underlying22 info_rowE rfl (· < w.heap.size) w.heap.size _ fs wc.heap.size 31 _ g rfl _ _ rfl rfl rfl HRO3.out HS3.out ⟨_, rfl, HG3.out⟩ hfsl.out (by decide) (Nat.le_trans HWc.out.size HB3.out.size) ?_)
            intro v4 w4 hro hg
            have HRO4 := Lib.hid hro
            have HW4 : Hid (Below w.heap.size w w4) := (HWc.out.trans (HB3.out.mono HWc.out.size)).trans (hg.below (Nat.le_trans HWc.out.size HB3.out.size) fun k e0 => (HRO3.out.lt k e0).1)
            clear hro hg HRO3 HG3 HS3 HB3 HROc HSWc HWc
            obtain ⟨o4, c4, hv4⟩ := HRO4.out.isSlice
            rw [List.length_append, List.length_singleton] at hv4
            subst hv4
            go_wp2_with fail
            go_roundw
            · exact ⟨i + 1, i + 1, fs ++ [g], by go_num, by omega, by go_num, by omega, by rw [List.length_append, List.length_singleton]; omega, HNX.out, HRO4.out, HW4.out⟩
            · simp only [intOf]; omega
      · have t1 : ¬ (i : Int) < (n : Int) := by omega
        have hin : i = n := by omega
        have HP : Hid (RCutPost t l w (.returned (.tuple #[.slice oo fs.length oc, .int .i64 0])) wr) := by
          refine ⟨fun _ => ⟨oo, oc, ?_, ?_⟩, fun h => absurd ⟨HRB.out, HT.out.1, HT.out.2⟩ h, HB.out⟩
          all_goals
            have h := HCR.out
            rw [hin, ← HN.out] at h
            rw [← h.done]
          exact HRO.out.rows.any
        clear HRO hin
        generalize fs.length = q at *
        go_wp2_with fail
        go_ret2
        exact HP.out
end Go.Proofs.Ytmpapipobjoboaa
