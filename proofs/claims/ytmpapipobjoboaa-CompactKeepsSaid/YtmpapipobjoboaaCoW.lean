/- The law CompactKeeps: its walk. -/
import Derived.Test.YtmpapipobjoboaaCoU
namespace Go.Proofs.Ytmpapipobjoboaa
open Go.RowKit

set_option maxRecDepth 100000 in
set_option maxHeartbeats 16000000 in
theorem compactKeeps_any (W : World) (vl vk : Value) (l : List Ent) (looks : List Int) (bottom : Bool) (t : Int) (hl : Rw entK (· < W.heap.size) W vl l) (hq : ∀ e ∈ l, Ent.near e) (hk : Rw unK (· < W.heap.size) W vk looks) :
    Calls Try.prog 10 #[vl, vk, .bool bottom, .int .i64 t] W fun e w' => e = .returned (.bool true) ∧ Below W.heap.size W w' := by
  obtain ⟨la, lc, rfl⟩ := hl.isSlice
  obtain ⟨ka, kc, rfl⟩ := hk.isSlice
  have hll := hl.len
  have hkl := hk.len
  simp only [maxLen] at hll hkl
  have HL := Lib.hid hl.any
  have HQ : Hid (∀ e ∈ l, e.key.length ≤ 140737488355328 ∧ e.value.length ≤ 140737488355328) := fun e he => ⟨Nat.le_trans (hq e he).1 (by decide), Nat.le_trans (hq e he).2 (by decide)⟩
  have HK := Lib.hid hk.any
  clear hl hq hk
  obtain ⟨n, hn⟩ : ∃ n, l.length = n := ⟨_, rfl⟩
  have HN := Lib.hid hn
  rw [hn] at HL hll
  rw [hn]
  clear hn
  obtain ⟨nk, hnk⟩ : ∃ n, looks.length = n := ⟨_, rfl⟩
  have HNK := Lib.hid hnk
  rw [hnk] at HK hkl
  rw [hnk]
  clear hnk
  go_enter Try.func10, Try.ntmps10
  go_wp2_with fail
  refine Calls.mono (llives_any _) ?_
  rintro _ w1 ⟨rfl, hb⟩
  have HW1 := Lib.hid hb
  clear hb
  by_cases hn : n ≤ 150
  case neg =>
    have t1 : (150 : Int) < (n : Int) := by omega
    go_wp2_with fail
    go_ret
    exact ⟨rfl, HW1.out⟩
  have t1 : ¬ (150 : Int) < (n : Int) := by omega
  go_wp2_with fail
  refine Calls.mono (kweigh_any _ _ l _ (HL.out.below HW1.out) (by rw [HN.out]; omega) HQ.out) ?_
  rintro _ w2 ⟨rfl, hd⟩
  have HW2 : Hid (Below W.heap.size W w2) := HW1.out.trans ((below_drewN hd).mono HW1.out.size)
  clear hd HW1
  obtain ⟨wt, hwt⟩ : ∃ wt, weighE l = wt := ⟨_, rfl⟩
  have HWT := Lib.hid hwt
  rw [hwt]
  clear hwt
  by_cases hwt : wt ≤ 15000
  case neg =>
    have t2 : (15000 : Int) < (wt : Int) := by omega
    go_wp2_with fail
    go_ret
    exact ⟨rfl, HW2.out⟩
  have t2 : ¬ (15000 : Int) < (wt : Int) := by omega
  by_cases hnk : nk ≤ 150
  case neg =>
    have t3 : (150 : Int) < (nk : Int) := by omega
    go_wp2_with fail
    go_ret
    exact ⟨rfl, HW2.out⟩
  have t3 : ¬ (150 : Int) < (nk : Int) := by omega
  by_cases ht1 : t < 1
  · go_wp2_with fail
    go_ret
    exact ⟨rfl, HW2.out⟩
  by_cases ht2 : 16777216 < t
  · go_wp2_with fail
    go_ret
    exact ⟨rfl, HW2.out⟩
  have HT : Hid (1 ≤ t ∧ t ≤ 16777216) := ⟨by omega, by omega⟩
  have HLE : Hid (∀ x ∈ l, x.key.length + x.value.length ≤ 100000) := fun x hx => by
    have h2 : x.key.length + x.value.length ≤ weighE l := le_sum (List.mem_map_of_mem (f := fun e : Ent => e.key.length + e.value.length) hx)
    rw [HWT.out] at h2
    omega
  go_wp2_with fail
  clear t1 t2 t3 ht1 ht2 hwt HWT
  go_loopw [9, 10] (fun av iv wr => ∃ i a c row, iv = .int .i64 ((i : Nat) : Int) ∧ i ≤ n ∧ av = .slice a row.length c ∧ Hid (Rw entK Any wr (.slice a row.length c) row) ∧ Hid (RowP l i row) ∧ Hid (Below W.heap.size W wr)) (fun _ iv _ => n - (intOf iv).toNat)
  case atStart => exact ⟨0, none, 0, [], rfl, by omega, rfl, Rw.nil _ _ _, RowP.start l, HW2.out⟩
  case round =>
    obtain ⟨i, a, c, row, rfl, hi, rfl, HA, HRP, HB⟩ := hrel
    clear HW2
    by_cases hlt : i < n
    · have t1 : (i : Int) < (n : Int) := by omega
      have hl1 : i < l.length := by rw [HN.out]; omega
      obtain ⟨ba, oa, capa, ea, _, hba, hca⟩ := ents_at (HL.out.below HB.out) (by omega)
      obtain ⟨k1, v1, hk1, hv1, hc1⟩ := hca i hl1
      injection ea with e1 e2 e3
      subst e1 e3
      clear e2 hca
      have HIN : Hid (eat l i ∈ l) := by rw [← eat_eq hl1]; exact List.getElem_mem _
      rw [eat_eq hl1] at hk1 hv1 hc1
      generalize eat l i = e at HIN hk1 hv1 hc1
      obtain ⟨ka1, kc1, rfl⟩ := hk1.isSlice
      obtain ⟨va1, vc1, rfl⟩ := hv1.isSlice
      have HKe := Lib.hid hk1
      have HVe := Lib.hid hv1
      obtain ⟨c0, c1, c2, c3⟩ := hc1
      have HC : Hid (C4o ba (oa + i * 4) e (.slice ka1 e.key.length kc1) (.slice va1 e.value.length vc1) wr) := ⟨c0, c1, c2, c3⟩
      have HBA : Hid (ba < wr.heap.size) := hba
      clear hk1 hv1 hba hl1
      go_wp2_with fail
      clear c0 c1 c2 c3
      refine Calls.mono (rput_any Any _ (.slice ka1 e.key.length kc1) (.slice va1 e.value.length vc1) row e _ HA.out HKe.out HVe.out (by have := HRP.out.len; omega)) ?_
      rintro _ w4 ⟨p, a4, c4, hp, rfl, hr4, hb4⟩
      have HP := Lib.hid hp
      have HR4 := Lib.hid hr4.any
      have HFEW : Hid ((putAt e row p).length ≤ 1000) := by show _ ≤ _; rw [putAt_len e row hp.le]; have := HRP.out.len; omega
      have HA4 := Lib.hid (HA.out.below hb4)
      have HK4 := Lib.hid (HKe.out.below hb4)
      have HV4 := Lib.hid (HVe.out.below hb4)
      have HW4 : Hid (Below W.heap.size W w4) := HB.out.trans (hb4.mono HB.out.size)
      obtain ⟨c0, c1, c2, c3⟩ := HC.out.keep hb4 HBA.out
      clear hp hr4 hb4 HA HKe HVe HC HBA HB
      obtain ⟨more, hmore⟩ : ∃ m, putAt e row p = m := ⟨_, rfl⟩
      rw [hmore] at HR4 HFEW
      rw [hmore]
      have HM := Lib.hid hmore
      clear hmore
      go_wp2_with fail
      clear c0 c1 c2 c3
      refine Calls.mono (rcheckE_any _ _ e (.slice ka1 e.key.length kc1) (.slice va1 e.value.length vc1) _ HK4.out HV4.out) ?_
      rintro _ w5 ⟨rfl, hb⟩
      have HA5 := Lib.hid (HA4.out.below hb)
      have HR5 := Lib.hid (HR4.out.below hb)
      have HW5 : Hid (Below W.heap.size W w5) := HW4.out.trans (hb.mono HW4.out.size)
      clear hb HA4 HR4 HK4 HV4 HW4
      obtain ⟨ck, hck⟩ : ∃ ck, e.chk = ck := ⟨_, rfl⟩
      rw [hck]
      clear hck
      by_cases hz : ck = 0
      · subst hz
        go_wp2_with fail
        refine Calls.mono (rrow_any _ _ more _ HR5.out (by have := HFEW.out; omega)) ?_
        rintro _ w6 ⟨rfl, hb⟩
        have HA6 := Lib.hid (HA5.out.below hb)
        have HR6 := Lib.hid (HR5.out.below hb)
        have HW6 : Hid (Below W.heap.size W w6) := HW5.out.trans (hb.mono HW5.out.size)
        clear hb HA5 HR5 HW5
        cases hrb : rowB more with
        | false =>
          have HSK := Lib.hid HRP.out.skip
          clear HRP hrb
          go_wp2_with fail
          go_roundw
          · exact ⟨i + 1, a, c, row, by go_num, by omega, rfl, HA6.out, HSK.out, HW6.out⟩
          · simp only [intOf]; omega
        | true =>
          have HSK : Hid (RowP l (i + 1) more) := by
            have h5 := HRP.out.put HP.out.le HIN.out (by rw [HM.out]; exact rowB_sorted.1 hrb)
            rw [HM.out] at h5
            exact h5
          clear HRP hrb
          go_wp2_with fail
          go_roundw
          · exact ⟨i + 1, a4, c4, more, by go_num, by omega, rfl, HR6.out, HSK.out, HW6.out⟩
          · simp only [intOf]; omega
      · have hz' : ((ck : Int) == 0) = false := by simp; omega
        have HSK := Lib.hid HRP.out.skip
        clear HRP HR5
        go_wp2_with fail
        go_roundw
        · exact ⟨i + 1, a, c, row, by go_num, by omega, rfl, HA5.out, HSK.out, HW5.out⟩
        · simp only [intOf]; omega
    · have t1 : ¬ (i : Int) < (n : Int) := by omega
      obtain ⟨w3, rfl⟩ : ∃ w3, w3 = wr := ⟨_, rfl⟩
      have hrl : row.length ≤ 150 := by have := HRP.out.len; omega
      have HRL := Lib.hid hrl
      have HRS := Lib.hid HRP.out.sort
      have HRB : Hid (∀ x ∈ row, x.key.length + x.value.length ≤ 100000) := fun x hx => HLE.out x (HRP.out.src x hx)
      have HRA := Lib.hid HA.out
      have HW3 := Lib.hid HB.out
      clear HRP HA HB hrl HLE HL
      go_wp2_with fail
      clear t1
      go_loopw [12, 13] (fun sv iv wr => ∃ (j : Nat) (see : List Int), iv = .int .i64 (j : Int) ∧ j ≤ nk ∧ see.length ≤ j ∧ Hid (UpTo see see.length) ∧ Hid (ROwnF unK (fun _ => False) w3.heap.size 27 wr sv see) ∧ Hid (Below w3.heap.size w3 wr)) (fun _ iv _ => nk - (intOf iv).toNat)
      case atStart => exact ⟨0, [], rfl, by omega, by simp, (fun i hi => by cases hi), ROwnF.nil _ _ _ _ _, Below.refl _ _⟩
      case round =>
        obtain ⟨j, see, rfl, hj, hsl, HUP, HSO, HBj⟩ := hrel
        obtain ⟨sa, sc, rfl⟩ := HSO.out.isSlice
        obtain ⟨sl, hsl2⟩ : ∃ sl, see.length = sl := ⟨_, rfl⟩
        have HSL := Lib.hid hsl2
        rw [hsl2] at hsl HSO
        rw [hsl2]
        clear hsl2
        by_cases hlt2 : j < nk
        · have t1 : (j : Int) < (nk : Int) := by omega
          have t2 : 0 ≤ (j : Int) := by omega
          obtain ⟨bk, ok, capk, ek, _, hbk, hck⟩ := uns_at (HK.out.below (HW3.out.trans (HBj.out.mono HW3.out.size))) (by rw [HNK.out]; omega)
          injection ek with e1 e2 e3
          subst e1 e3
          clear e2
          have c0 := hck j (by rw [HNK.out]; exact hlt2)
          have HBK : Hid (bk < wr.heap.size) := hbk
          obtain ⟨x, hx⟩ : ∃ x, uat looks j = x := ⟨_, rfl⟩
          rw [hx] at c0
          have HC0 := Lib.hid c0
          clear hck hx hbk
          go_upto_region 16 with fail
          go_cut [102] from 80 to 101 (fun z wx => (∃ b : Bool, z = .bool b ∧ Hid (b = true ↔ (x ≤ maxSeq ∧ (0 < sl → uat see (sl - 1) < x)))) ∧ Hid (Below wr.heap.size wr wx))
          case first =>
            by_cases hmx : x ≤ 72057594037927935
            · by_cases hs0 : sl = 0
              · subst hs0
                have HIF : Hid (x ≤ maxSeq ∧ (0 < 0 → uat see (0 - 1) < x)) := ⟨by unfold maxSeq; exact hmx, fun h => by omega⟩
                go_wp2_with fail
                go_quiet (fail)
                all_goals
                  go_wp2_with fail
                  go_meet
                  exact ⟨⟨true, rfl, by show _ ↔ _; simp only [HIF.out]; simp⟩, below_dn (Below.refl _ _) _⟩
              · obtain ⟨bs, os, caps, es, _, _, hcs⟩ := uns_at HSO.out.rows (by rw [HSL.out]; omega)
                obtain ⟨m1, hm1⟩ : ∃ m1, sl = m1 + 1 := ⟨sl - 1, by omega⟩
                injection es with e1 e2 e3
                subst e1 e3
                clear e2
                have d0 := hcs m1 (by rw [HSL.out]; omega)
                have hm2 : sl - 1 = m1 := by omega
                have HM2 := Lib.hid hm2
                obtain ⟨y, hy⟩ : ∃ y, uat see m1 = y := ⟨_, rfl⟩
                have HY := Lib.hid hy
                rw [hy] at d0
                have HMX : Hid (x ≤ maxSeq) := by show _ ≤ _; unfold maxSeq; exact hmx
                have HS0 : Hid (0 < sl) := by show _ < _; omega
                have t10 : IntKind.i64.wrap ((sl : Int) - 1) = (m1 : Int) := by rw [wrap_small (by omega) (by omega)]; omega
                have t11 : IntKind.i64.wrap (m1 : Int) = (m1 : Int) := wrap_small (by omega) (by omega)
                have t12 : (m1 : Int) < (sl : Int) := by omega
                have t13 : 0 ≤ (m1 : Int) := by omega
                have t14 : ((sl : Int) == 0) = false := by simp; omega
                have t15 : m1 < sl := by omega
                clear hcs hm1 hm2 hy hs0
                have HIF : Hid (decide (y < x) = true ↔ (x ≤ maxSeq ∧ (0 < sl → uat see (sl - 1) < x))) := by
                  show _ ↔ _
                  rw [HM2.out, HY.out]
                  simp [HMX.out, HS0.out]
                go_wp2_with fail
                go_quiet (fail)
                all_goals
                  go_wp2_with fail
                  go_meet
                  exact ⟨⟨_, rfl, HIF.out⟩, below_dn (Below.refl _ _) _⟩
            · have hmx' : decide (x ≤ 72057594037927935) = false := decide_eq_false hmx
              have HMX : Hid (¬ x ≤ maxSeq) := by show ¬ _; unfold maxSeq; exact hmx
              go_wp2_with fail
              go_quiet (fail)
              all_goals
                go_wp2_with fail
                go_meet
                exact ⟨⟨false, rfl, by show _ ↔ _; exact ⟨fun h => (by cases h), fun h => absurd h.1 (by first | exact HMX.out | exact Int.not_le.2 HMX.out)⟩⟩, below_dn (Below.refl _ _) _⟩
          case rest =>
            obtain ⟨⟨b, rfl, HIF⟩, HBc⟩ := hcut
            have HSc := Lib.hid (HSO.out.below HBc.out)
            have HWc : Hid (Below w3.heap.size w3 wc) := HBj.out.trans (HBc.out.mono HBj.out.size)
            have c0 := (HBc.out.cell (p := ⟨bk, ok + j, none⟩) HBK.out).trans HC0.out
            clear HSO HBj HBc HC0 HBK
            cases b with
            | false =>
              go_wp2_with fail
              go_roundw
              · exact ⟨j + 1, see, by go_num, by omega, by rw [HSL.out]; omega, HUP.out, HSc.out, HWc.out⟩
              · simp only [intOf]; omega
            | true =>
              have hif := HIF.out.1 rfl
              have HUN : Hid (UpTo (see ++ [x]) (see ++ [x]).length) := HUP.out.push hif.1 (by rw [HSL.out]; exact hif.2)
              have HLen : Hid (see.length < 1000000) := by show _ < _; rw [HSL.out]; omega
              clear hif HIF HUP
              go_wp2_with (with_reducible refine pause_append ?_)
              clear c0
              refine list_gen fun w5 hw5 => ?_
              have HB5 : Hid (Below wc.heap.size wc w5) := by rw [hw5]; exact (Below.refl _ _).alloc (Nat.le_refl _) _
              have HS5 : Hid (Blk w5 wc.heap.size #[.int .u64 x] 27) := by rw [hw5]; exact Blk.at_new rfl rfl
              clear hw5
              have HO5 := Lib.hid (HSc.out.below HB5.out)
              have HT5 : Hid (Below w3.heap.size w3 w5) := HWc.out.trans (HB5.out.mono HWc.out.size)
              refine Pause.go (wpList_append_elF (K := unK) 35 27 _ 8 Try.underlying35 info_un rfl _ w3.heap.size _ see wc.heap.size 27 _ x rfl _ _ rfl rfl rfl HO5.out HS5.out rfl HLen.out (by decide) HT5.out.size ?_)
              intro v6 w6 hro hg
              have HO6 := Lib.hid hro
              have HT6 : Hid (Below w3.heap.size w3 w6) := HT5.out.trans (hg.below HT5.out.size fun k e0 => (HO5.out.lt k e0).1)
              have HLL : Hid ((see ++ [x]).length ≤ j + 1) := by show _ ≤ _; rw [List.length_append, List.length_singleton, HSL.out]; omega
              clear hro hg HO5 HS5 HB5 HT5 HSc HWc HLen
              generalize see ++ [x] = see2 at *
              obtain ⟨a6, c6, rfl⟩ := HO6.out.isSlice
              go_wp2_with fail
              go_roundw
              · exact ⟨j + 1, see2, by go_num, by omega, HLL.out, HUN.out, HO6.out, HT6.out⟩
              · simp only [intOf]; omega
        · have t1 : ¬ (j : Int) < (nk : Int) := by omega
          have hsl3 : sl ≤ 150 := by omega
          have HS3 : Hid (see.length ≤ 1000) := by show _ ≤ _; rw [HSL.out]; omega
          have HSA := Lib.hid HSO.out.rows.any
          have HRA4 := Lib.hid (HRA.out.below HBj.out)
          have HW4 : Hid (Below W.heap.size W wr) := HW3.out.trans (HBj.out.mono HW3.out.size)
          clear HSO HBj HW3 HRA hj hsl HK
          have HR1 : Hid (row.length ≤ 1000) := Nat.le_trans HRL.out (by decide)
          obtain ⟨left, hleft⟩ : ∃ left, rowOf see bottom row = left := ⟨_, rfl⟩
          have HLF := Lib.hid hleft
          have HLS : Hid (Sorted left) := by show Sorted left; rw [← hleft]; exact rowOf_sorted HRS.out see bottom
          have HLL : Hid (left.length ≤ 150) := by show _ ≤ _; rw [← hleft]; exact Nat.le_trans (rowOf_len see bottom row) HRL.out
          have HLB : Hid (∀ x ∈ left, x.key.length + x.value.length ≤ 100000) := fun x hx => HRB.out x (by rw [← hleft] at hx; exact rowOf_mem hx)
          have HLT : Hid (rowOf see bottom left = left) := by show _ = _; rw [← hleft]; exact rowOf_twice HRS.out
          have HLN : Hid (∀ s ∈ see ++ [maxSeq], rseenGo s none row = rseenGo s none left) := fun s hs => by rw [← hleft]; exact seen_left HRS.out hs
          clear hleft
          have HL1 : Hid (left.length ≤ 1000) := Nat.le_trans HLL.out (by decide)
          go_wp2_with fail
          refine Calls.mono (crow_yes _ _ _ _ row see bottom left _ HRA4.out HSA.out HR1.out HS3.out HRB.out HRS.out HUP.out HLF.out) ?_
          rintro _ w5 ⟨a5, c5, rfl, hx, hb⟩
          have HLA := Lib.hid hx
          have HRA := Lib.hid (HRA4.out.below hb)
          have HSA := Lib.hid (HSA.out.below hb)
          have HW5 : Hid (Below W.heap.size W w5) := HW4.out.trans (hb.mono HW4.out.size)
          clear hx hb HRA4 HW4
          go_wp2_with fail
          refine Calls.mono (crow_yes _ _ _ _ left see bottom left _ HLA.out HSA.out HL1.out HS3.out HLB.out HLS.out HUP.out HLT.out) ?_
          rintro _ w6 ⟨a6, c6, rfl, hx, hb⟩
          have HAG := Lib.hid hx
          have HLA := Lib.hid (HLA.out.below hb)
          have HRA := Lib.hid (HRA.out.below hb)
          have HSA := Lib.hid (HSA.out.below hb)
          have HW6 : Hid (Below W.heap.size W w6) := HW5.out.trans (hb.mono HW5.out.size)
          clear hx hb HW5
          go_wp2_with fail
          refine calls_gen fun w7 hw7 => ?_
          have HB7 : Hid (Below w6.heap.size w6 w7) := by rw [hw7]; exact (Below.refl _ _).alloc (Nat.le_refl _) _
          have HRR : Hid (Rw (rowK entK) Any w7 (.slice (some ⟨w6.heap.size, 0, none⟩) 1 1) [row]) := by
            have hX := HRA.out.below HB7.out
            rw [hw7] at hX ⊢
            exact rows_lit1 (Blk.at_new rfl rfl) hX
          have HAG := Lib.hid (HAG.out.below HB7.out)
          have HLA := Lib.hid (HLA.out.below HB7.out)
          have HRA := Lib.hid (HRA.out.below HB7.out)
          have HSA := Lib.hid (HSA.out.below HB7.out)
          have HW7 : Hid (Below W.heap.size W w7) := HW6.out.trans (HB7.out.mono HW6.out.size)
          clear hw7 HB7 HW6
          refine Calls.mono (crun_yes _ _ _ _ row see bottom t left _ HRR.out HSA.out HR1.out HS3.out HRB.out HRS.out HUP.out HT.out HLF.out) ?_
          rintro _ w8 ⟨a8, c8, rfl, hx, hb⟩
          have HFI := Lib.hid hx
          have HAG := Lib.hid (HAG.out.below hb)
          have HLA := Lib.hid (HLA.out.below hb)
          have HRA := Lib.hid (HRA.out.below hb)
          have HSA := Lib.hid (HSA.out.below hb)
          have HW8 : Hid (Below W.heap.size W w8) := HW7.out.trans (hb.mono HW7.out.size)
          have HCG := Lib.hid (cutG t left left.length (Nat.le_refl _)).1
          have HFL : Hid ((cutTo t left left.length).length ≤ 150) := Nat.le_trans (cutTo_len t left left.length) HLL.out
          clear hx hb HRR HW7
          generalize cutTo t left left.length = fs at *
          go_wp2_with fail
          refine Calls.mono (kentries_same _ _ _ _ left _ HLA.out HAG.out) ?_
          rintro _ w9 ⟨rfl, hb⟩
          have HFI := Lib.hid (HFI.out.below hb)
          have HLA := Lib.hid (HLA.out.below hb)
          have HRA := Lib.hid (HRA.out.below hb)
          have HSA := Lib.hid (HSA.out.below hb)
          have HW9 : Hid (Below W.heap.size W w9) := HW8.out.trans (hb.mono HW8.out.size)
          clear hb HAG HW8
          -- the numbers, and the greatest
          go_wp2_with (with_reducible refine pause_append ?_)
          refine list_gen fun w10 hw10 => ?_
          have HB10 : Hid (Below w9.heap.size w9 w10) := by rw [hw10]; exact (Below.refl _ _).alloc (Nat.le_refl _) _
          have HO10 : Hid (ROwnF unK (fun _ => False) w9.heap.size 27 w10 (.slice (some ⟨w9.heap.size, 0, none⟩) 0 0) []) := by rw [hw10]; exact ROwnF.lit_at _ _ _ rfl
          have HS10 := Lib.hid (HSA.out.below HB10.out)
          clear hw10
          obtain ⟨cs, hsl, hel⟩ := HS10.out
          have HSLc := Lib.hid hsl
          have HELc := Lib.hid hel
          clear hsl hel
          refine Pause.go (wpList_append_elsF (K := unK) 35 27 _ 8 Try.underlying35 info_un rfl (fun _ => False) w9.heap.size _ [] _ see rfl _ _ rfl rfl rfl HO10.out cs _ HSLc.out
            (els_un HELc.out) (by simp only [List.length_nil]; have := HS3.out; omega) (by decide) HB10.out.size ?_)
          intro v11 w11 ho hg
          have HO11 : Hid (ROwnF unK (fun _ => False) w9.heap.size 27 w11 v11 see) := ho
          have HB11 : Hid (Below w9.heap.size w9 w11) := HB10.out.trans (hg.below HB10.out.size fun k e => (HO10.out.lt k e).1)
          clear ho hg HO10 HB10 HS10 HSLc HELc
          go_wp2_with (with_reducible refine pause_append ?_)
          refine list_gen fun w12 hw12 => ?_
          have HB12 : Hid (Below w11.heap.size w11 w12) := by rw [hw12]; exact (Below.refl _ _).alloc (Nat.le_refl _) _
          have HS12 : Hid (Blk w12 w11.heap.size #[.int .u64 maxSeq] 27) := by rw [hw12]; exact Blk.at_new rfl rfl
          clear hw12
          have HT12 : Hid (Below w9.heap.size w9 w12) := HB11.out.trans (HB12.out.mono HB11.out.size)
          have HO12 := Lib.hid (HO11.out.below HB12.out)
          refine Pause.go (wpList_append_elF (K := unK) 35 27 _ 8 Try.underlying35 info_un rfl _ w9.heap.size _ see w11.heap.size 27 _ maxSeq rfl _ _ rfl rfl rfl HO12.out HS12.out rfl (Nat.lt_of_le_of_lt HS3.out (by decide)) (by decide) HT12.out.size ?_)
          intro v13 w13 hro hg
          obtain ⟨a13, c13, rfl⟩ := hro.isSlice
          have HAL := Lib.hid hro.rows.any
          have HB13 : Hid (Below w9.heap.size w9 w13) := HT12.out.trans (hg.below HT12.out.size fun k e0 => (HO12.out.lt k e0).1)
          have HQ13 : Hid ((see ++ [maxSeq]).length = sl + 1) := by show _ = _; rw [List.length_append, HSL.out]; rfl
          clear hro hg HO12 HS12 HT12 HB12 HB11 HO11
          have HFI := Lib.hid (HFI.out.below HB13.out)
          have HLA := Lib.hid (HLA.out.below HB13.out)
          have HRA := Lib.hid (HRA.out.below HB13.out)
          have HW13 : Hid (Below W.heap.size W w13) := HW9.out.trans (HB13.out.mono HW9.out.size)
          clear HSA HB13 HW9
          rw [HQ13.out] at HAL
          rw [HQ13.out]
          generalize see ++ [maxSeq] = all at *
          go_wp2_with fail
          go_loopw [21] (fun iv wr => ∃ (j : Nat), iv = .int .i64 (j : Int) ∧ j ≤ sl + 1 ∧ Hid (Below w13.heap.size w13 wr)) (fun iv _ => sl + 1 - (intOf iv).toNat)
          case atStart => exact ⟨0, rfl, by omega, Below.refl _ _⟩
          case round =>
            obtain ⟨j, rfl, hj, HBj⟩ := hrel
            by_cases hlt3 : j < sl + 1
            · have t1 : (j : Int) < (sl : Int) + 1 := by omega
              have t2 : 0 ≤ (j : Int) := by omega
              obtain ⟨bk, ok, capk, ek, _, hbk, hck⟩ := uns_at (HAL.out.below HBj.out) (by rw [HQ13.out]; omega)
              injection ek with e1 e2 e3
              subst e1 e3
              clear e2
              have c0 := hck j (by rw [HQ13.out]; exact hlt3)
              have hin : uat all j ∈ all := mem_uat.2 ⟨j, by rw [HQ13.out]; exact hlt3, rfl⟩
              obtain ⟨s, hs⟩ : ∃ s, uat all j = s := ⟨_, rfl⟩
              rw [hs] at c0 hin
              have HC0 : Hid (wr.cell? ⟨bk, ok + j, none⟩ = some (.int .u64 s)) := c0
              have HBK : Hid (bk < wr.heap.size) := hbk
              have heq := HLN.out s hin
              obtain ⟨X, hX⟩ : ∃ X, rseenGo s none row = X := ⟨_, rfl⟩
              have HX1 := Lib.hid hX
              rw [hX] at heq
              have HX2 := Lib.hid heq.symm
              have d0 : ∀ o, (wr.alloc o).cell? ⟨bk, ok + j, none⟩ = some (.int .u64 s) := fun o => Lib.cell?_alloc_some o HC0.out
              clear hs hin heq hX hck hbk
              go_wp2_with fail
              clear d0 c0
              refine calls_gen fun w14 hw14 => ?_
              have HB14 : Hid (Below wr.heap.size wr w14) := by rw [hw14]; exact (Below.refl _ _).alloc (Nat.le_refl _) _
              have HRR : Hid (Rw (rowK entK) Any w14 (.slice (some ⟨wr.heap.size, 0, none⟩) 1 1) [row]) := by
                have hX := (HRA.out.below HBj.out).below HB14.out
                rw [hw14] at hX ⊢
                exact rows_lit1 (Blk.at_new rfl rfl) hX
              clear hw14
              refine Calls.mono (rseen_one _ _ row s X _ HRR.out HR1.out HRB.out HRS.out HX1.out) ?_
              rintro _ w15 ⟨a15, c15, rfl, hx, hb⟩
              have HB15 : Hid (Below wr.heap.size wr w15) := HB14.out.trans (hb.mono HB14.out.size)
              have HS1 := Lib.hid hx
              have c0 : w15.cell? ⟨bk, ok + j, none⟩ = some (.int .u64 s) := (HB15.out.cell (p := ⟨bk, ok + j, none⟩) HBK.out).trans HC0.out
              have d0 : ∀ o, (w15.alloc o).cell? ⟨bk, ok + j, none⟩ = some (.int .u64 s) := fun o => Lib.cell?_alloc_some o c0
              clear hx hb HRR HB14
              go_wp2_with fail
              clear d0 c0
              refine calls_gen fun w16 hw16 => ?_
              have HB16 : Hid (Below w15.heap.size w15 w16) := by rw [hw16]; exact (Below.refl _ _).alloc (Nat.le_refl _) _
              have HRR : Hid (Rw (rowK entK) Any w16 (.slice (some ⟨w15.heap.size, 0, none⟩) 1 1) [left]) := by
                have hX := ((HLA.out.below HBj.out).below HB15.out).below HB16.out
                rw [hw16] at hX ⊢
                exact rows_lit1 (Blk.at_new rfl rfl) hX
              have HS1 := Lib.hid (HS1.out.below HB16.out)
              clear hw16
              refine Calls.mono (rseen_one _ _ left s X _ HRR.out HL1.out HLB.out HLS.out HX2.out) ?_
              rintro _ w17 ⟨a17, c17, rfl, hx, hb⟩
              have HS2 := Lib.hid hx
              have HS1 := Lib.hid (HS1.out.below hb)
              have HB17 : Hid (Below wr.heap.size wr w17) := (HB15.out.trans (HB16.out.mono HB15.out.size)).trans (hb.mono (Nat.le_trans HB15.out.size HB16.out.size))
              clear hx hb HRR HB16 HB15 HC0 HBK HX1 HX2
              go_wp2_with fail
              refine Calls.mono (kentries_same _ _ _ _ X _ HS1.out HS2.out) ?_
              rintro _ w18 ⟨rfl, hb⟩
              have HB18 : Hid (Below w13.heap.size w13 w18) := (HBj.out.trans (HB17.out.mono HBj.out.size)).trans (hb.mono (Nat.le_trans HBj.out.size HB17.out.size))
              clear hb HS1 HS2 HB17 HBj
              generalize X.length = xl at *
              go_wp2_with fail
              go_roundw
              · exact ⟨j + 1, by go_num, by omega, HB18.out⟩
              · simp only [intOf]; omega
            · have t1 : ¬ (j : Int) < (sl : Int) + 1 := by omega
              obtain ⟨w20, rfl⟩ : ∃ w20, w20 = wr := ⟨_, rfl⟩
              have HFI := Lib.hid (HFI.out.below HBj.out)
              have HLA := Lib.hid (HLA.out.below HBj.out)
              have HW20 : Hid (Below W.heap.size W w20) := HW13.out.trans (HBj.out.mono HW13.out.size)
              have HFI2 : Hid (Rw (rowK entK) (· < w20.heap.size) w20 (.slice a8 fs.length c8) fs) := HFI.out.mono fun k hk _ => hk
              have HFM : Hid (fs.flatten = left) := by show _ = _; rw [HCG.out.join, List.take_of_length_le (Nat.le_refl _)]
              obtain ⟨fl, hfl⟩ : ∃ fl, fs.length = fl := ⟨_, rfl⟩
              have HFN := Lib.hid hfl
              have hfl2 : fl ≤ 150 := by rw [← hfl]; exact HFL.out
              rw [hfl] at HFI2
              rw [hfl]
              clear hfl HFI HRA HAL HBj HW13 hj HFL HQ13 HLN HUP HSL
              go_wp2_with fail
              clear t1
              go_loopw [26, 27] (fun jv iv wr => ∃ (i : Nat), iv = .int .i64 (i : Int) ∧ i ≤ fl ∧ Hid (ROwnF entK (· < w20.heap.size) w20.heap.size 29 wr jv (fs.take i).flatten) ∧ Hid (Below w20.heap.size w20 wr)) (fun _ iv _ => fl - (intOf iv).toNat)
              case atStart => exact ⟨0, rfl, by omega, ROwnF.nil _ _ _ _ _, Below.refl _ _⟩
              case round =>
                obtain ⟨i, rfl, hi, HRO, HBi⟩ := hrel
                obtain ⟨ja, jc, rfl⟩ := HRO.out.isSlice
                have hJL : (fs.take i).flatten.length ≤ 150 := by
                  have h1 := flat_len (fs := fs) i
                  rw [HFM.out] at h1
                  exact Nat.le_trans h1 HLL.out
                obtain ⟨jl, hjl⟩ : ∃ jl, (fs.take i).flatten.length = jl := ⟨_, rfl⟩
                have HJL := Lib.hid hjl
                rw [hjl] at HRO hJL
                rw [hjl]
                clear hjl
                by_cases hlt4 : i < fl
                · have t1 : (i : Int) < (fl : Int) := by omega
                  have t2 : 0 ≤ (i : Int) := by omega
                  have hif : i < fs.length := by rw [HFN.out]; exact hlt4
                  obtain ⟨bf, of, capf, ef, _, hbf, hcf⟩ := rows_at (HFI2.out.below HBi.out) (by omega)
                  obtain ⟨u, hu, c1⟩ := hcf i hif
                  injection ef with e1 e2 e3
                  subst e1 e3
                  clear e2 hcf
                  rw [rat_eq hif] at hu
                  obtain ⟨g, hg⟩ : ∃ g, fs.getD i [] = g := ⟨_, rfl⟩
                  have HG := Lib.hid hg
                  rw [hg] at hu
                  have hg0 : g ≠ [] := by rw [← hg, ← rat_eq hif]; exact HCG.out.full _ (List.getElem_mem hif)
                  have hgl0 : 0 < g.length := List.length_pos_iff.2 hg0
                  have hgl1 : g.length ≤ 150 := by
                    have h1 := file_len hif
                    rw [hg, HFM.out] at h1
                    exact Nat.le_trans h1 HLL.out
                  have HGB : Hid (∀ k, k < g.length → (eat g k).key.length + (eat g k).value.length ≤ 100000) := fun k hk => HLB.out _ (by
                    rw [← HFM.out]
                    refine file_mem hif ?_
                    rw [hg]
                    exact eat_mem hk)
                  obtain ⟨bg, og, capg, eg, _, hbg, hcg⟩ := ents_at hu hgl0
                  obtain ⟨gk, gv, hgk, hgv, d0, _, _, _⟩ := hcg 0 hgl0
                  rw [eat_eq hgl0] at hgk
                  have d0 : wr.cell? ⟨bg, og, none⟩ = some gk := d0
                  subst eg
                  clear hgv hcg
                  have HTK : Hid ((fs.take (i + 1)).flatten = (fs.take i).flatten ++ g) := by show _ = _; rw [flat_take hif, hg]
                  have HED : Hid (i + 1 < fl → t ≤ (sizeE g : Int)) := fun h => by
                    have h1 := (HCG.out.edge i (by rw [HFN.out]; exact h)).1
                    rwa [hg] at h1
                  have HPV : Hid (0 < i → 0 < jl ∧ (eat (fs.take i).flatten (jl - 1)).key ≠ (eat g 0).key) := fun h0 => by
                    have h1 : fs.getD (i - 1) [] ≠ [] := by rw [← rat_eq (show i - 1 < fs.length by omega)]; exact HCG.out.full _ (List.getElem_mem _)
                    have h2 := flat_last (fs := fs) (i := i - 1) (by omega) h1
                    have h3 := (HCG.out.edge (i - 1) (by omega)).2
                    rw [show i - 1 + 1 = i by omega, HJL.out] at h2
                    rw [show i - 1 + 1 = i by omega, hg] at h3
                    refine ⟨h2.2, ?_⟩
                    rw [h2.1]
                    exact h3
                  obtain ⟨gl, hgl⟩ : ∃ gl, g.length = gl := ⟨_, rfl⟩
                  have HGL := Lib.hid hgl
                  obtain ⟨sz, hsz⟩ : ∃ sz, sizeE g = sz := ⟨_, rfl⟩
                  have HSZE := Lib.hid hsz
                  have hu2 : Rw entK (· < w20.heap.size) wr (.slice (some ⟨bg, og, none⟩) g.length capg) g := hu
                  have hkw : ∀ m, Calls Try.prog 48 #[.slice (some ⟨bg, og, none⟩) gl capg] (wr.drewN m) fun e w' => e = .returned (.int .i64 (sz : Int)) ∧ ∃ n, w' = (wr.drewN m).drewN n := fun m => by
                    have h5 := sizeof_any _ _ g (wr.drewN m) (hu2.below (below_dn (Below.refl _ _) _)) (by omega) HGB.out
                    rw [HSZE.out, HGL.out] at h5
                    exact h5
                  have HKW := Lib.hid hkw
                  rw [hgl] at c1 hu hu2 hgl0 hgl1
                  rw [HSZE.out] at HED
                  have HU := Lib.hid hu2
                  have HC1 : Hid (wr.cell? ⟨bf, of + i, none⟩ = some (.slice (some ⟨bg, og, none⟩) gl capg)) := c1
                  have HBF : Hid (bf < wr.heap.size) := hbf
                  have t4 : ((gl : Int) == 0) = false := by simp; omega
                  have t5 : 0 < (gl : Int) := by omega
                  have t6 : 0 < gl := by omega
                  have t7 : IntKind.i64.wrap ((fl : Int) - 1) = (fl : Int) - 1 := wrap_small (by omega) (by omega)
                  clear hu hu2 hkw hg hg0 hgl0 hgl hsz hif hbf hbg
                  go_upto_region 35 with fail
                  go_cut [236] from 194 to 235 (fun z wx => z = .bool false ∧ Hid (Below wr.heap.size wr wx))
                  case first =>
                    by_cases hl5 : i + 1 < fl
                    · have t8 : (i : Int) < (fl : Int) - 1 := by omega
                      have t9 : decide ((sz : Int) < t) = false := decide_eq_false (by have := HED.out hl5; omega)
                      by_cases hi0 : 0 < i
                      · obtain ⟨hp1, hp2⟩ := HPV.out hi0
                        obtain ⟨m1, hm1⟩ : ∃ m1, jl = m1 + 1 := ⟨jl - 1, by omega⟩
                        have hm2 : jl - 1 = m1 := by omega
                        rw [hm2] at hp2
                        obtain ⟨bj, oj, capj, ej, _, hbj, hcj⟩ := ents_at HRO.out.rows (by rw [HJL.out]; exact hp1)
                        obtain ⟨jk, jv, hjk, hjv, j0, j1, j2, j3⟩ := hcj m1 (by rw [HJL.out]; omega)
                        rw [eat_eq (by rw [HJL.out]; omega)] at hjk
                        injection ej with e1 e2 e3
                        subst e1 e3
                        have hkb : ∀ m, Calls Try.prog 32 #[jk, gk] (wr.drewN m) fun e w' => e = .returned (.bool false) ∧ ∃ n, w' = (wr.drewN m).drewN n := fun m => kbytes_at _ _ _ _ _ _ _ (hjk.below (below_dn (Below.refl _ _) _)) (hgk.below (below_dn (Below.refl _ _) _)) (decide_eq_false hp2)
                        have HKB := Lib.hid hkb
                        have t10 : IntKind.i64.wrap ((jl : Int) - 1) = (m1 : Int) := by rw [wrap_small (by omega) (by omega)]; omega
                        have t11 : IntKind.i64.wrap (m1 : Int) = (m1 : Int) := wrap_small (by omega) (by omega)
                        have t12 : (m1 : Int) < (jl : Int) := by omega
                        have t13 : 0 ≤ (m1 : Int) := by omega
                        have t15 : m1 < jl := by omega
                        have t16 : 0 < (i : Int) := by omega
                        have HHP := Lib.hid hp2
                        have j0 : wr.cell? ⟨bj, oj + m1 * 4, none⟩ = some jk := j0
                        clear e2 hcj hjv hjk hkb j1 j2 j3 hm1 hm2 hp1 hp2 HPV
                        go_wp2_with fail
                        go_quiet ((first | (go_at_call 32; refine Calls.quiet_of (HKB.out _)) | (go_at_call 48; refine Calls.quiet_of (HKW.out _))))
                        all_goals
                          go_wp2_with fail
                          go_meet
                          exact ⟨rfl, below_dn (Below.refl _ _) _⟩
                      · have t16 : decide (0 < (i : Int)) = false := decide_eq_false (by omega)
                        have t17 : decide (0 < i) = false := decide_eq_false (by omega)
                        clear hi0 HPV
                        go_wp2_with fail
                        go_quiet ((go_at_call 48; refine Calls.quiet_of (HKW.out _)))
                        all_goals
                          go_wp2_with fail
                          go_meet
                          exact ⟨rfl, below_dn (Below.refl _ _) _⟩
                    · have t8 : decide ((i : Int) < (fl : Int) - 1) = false := decide_eq_false (by omega)
                      by_cases hi0 : 0 < i
                      · obtain ⟨hp1, hp2⟩ := HPV.out hi0
                        obtain ⟨m1, hm1⟩ : ∃ m1, jl = m1 + 1 := ⟨jl - 1, by omega⟩
                        have hm2 : jl - 1 = m1 := by omega
                        rw [hm2] at hp2
                        obtain ⟨bj, oj, capj, ej, _, hbj, hcj⟩ := ents_at HRO.out.rows (by rw [HJL.out]; exact hp1)
                        obtain ⟨jk, jv, hjk, hjv, j0, j1, j2, j3⟩ := hcj m1 (by rw [HJL.out]; omega)
                        rw [eat_eq (by rw [HJL.out]; omega)] at hjk
                        injection ej with e1 e2 e3
                        subst e1 e3
                        have hkb : ∀ m, Calls Try.prog 32 #[jk, gk] (wr.drewN m) fun e w' => e = .returned (.bool false) ∧ ∃ n, w' = (wr.drewN m).drewN n := fun m => kbytes_at _ _ _ _ _ _ _ (hjk.below (below_dn (Below.refl _ _) _)) (hgk.below (below_dn (Below.refl _ _) _)) (decide_eq_false hp2)
                        have HKB := Lib.hid hkb
                        have t10 : IntKind.i64.wrap ((jl : Int) - 1) = (m1 : Int) := by rw [wrap_small (by omega) (by omega)]; omega
                        have t11 : IntKind.i64.wrap (m1 : Int) = (m1 : Int) := wrap_small (by omega) (by omega)
                        have t12 : (m1 : Int) < (jl : Int) := by omega
                        have t13 : 0 ≤ (m1 : Int) := by omega
                        have t15 : m1 < jl := by omega
                        have t16 : 0 < (i : Int) := by omega
                        have HHP := Lib.hid hp2
                        have j0 : wr.cell? ⟨bj, oj + m1 * 4, none⟩ = some jk := j0
                        clear e2 hcj hjv hjk hkb j1 j2 j3 hm1 hm2 hp1 hp2 HPV
                        go_wp2_with fail
                        go_quiet ((go_at_call 32; refine Calls.quiet_of (HKB.out _)))
                        all_goals
                          go_wp2_with fail
                          go_meet
                          exact ⟨rfl, below_dn (Below.refl _ _) _⟩
                      · have t16 : decide (0 < (i : Int)) = false := decide_eq_false (by omega)
                        have t17 : decide (0 < i) = false := decide_eq_false (by omega)
                        clear hi0 HPV
                        go_wp2_with fail
                        go_quiet (fail)
                        all_goals
                          go_wp2_with fail
                          go_meet
                          exact ⟨rfl, below_dn (Below.refl _ _) _⟩
                  case rest =>
                    obtain ⟨rfl, HBc⟩ := hcut
                    have c1 := (HBc.out.cell (p := ⟨bf, of + i, none⟩) HBF.out).trans HC1.out
                    have HUc := Lib.hid (HU.out.below HBc.out)
                    have HROc := Lib.hid (HRO.out.below HBc.out)
                    have HWc : Hid (Below w20.heap.size w20 wc) := HBi.out.trans (HBc.out.mono HBi.out.size)
                    clear HU HRO HBi HBc HC1 HBF HKW HPV HED t4 t5 t7
                    obtain ⟨cs, hsl, hel⟩ := HUc.out
                    have HSLc := Lib.hid hsl
                    have HELc : Hid (Els entK (fun k => k < w20.heap.size ∧ (Value.slice ja jl jc).ownBlock ≠ some k) wc cs g) := hel.mono fun k _ hk => ⟨hk, fun e0 => by have := (HROc.out.lt k e0).1; omega⟩
                    clear hsl hel
                    have HSM : Hid ((fs.take i).flatten.length + g.length ≤ 1000000) := by show _ ≤ _; rw [HJL.out, HGL.out]; omega
                    go_wp2_with (with_reducible refine pause_append ?_)
                    clear c1
                    rw [HGL.out] at HSLc
                    refine Pause.go (wpList_append_elsF (K := entK) 31 29 _ 64 Try.underlying31 info_entO rfl (· < w20.heap.size) w20.heap.size _ (fs.take i).flatten _ g rfl _ _ rfl rfl rfl HROc.out cs _ (by rw [HGL.out]; exact HSLc.out) HELc.out HSM.out (by decide) HWc.out.size ?_)
                    intro v22 w22 hro hg
                    rw [← HTK.out] at hro
                    have HRO2 := Lib.hid hro
                    have HW22 : Hid (Below w20.heap.size w20 w22) := HWc.out.trans (hg.below HWc.out.size fun k e0 => (HROc.out.lt k e0).1)
                    clear hro hg HROc HWc HUc HSLc HELc
                    obtain ⟨a22, c22, hv22⟩ := HRO2.out.isSlice
                    obtain ⟨q22, hq22⟩ : ∃ q, (fs.take (i + 1)).flatten.length = q := ⟨_, rfl⟩
                    rw [hq22] at hv22
                    subst hv22
                    clear hq22
                    go_wp2_with fail
                    go_roundw
                    · exact ⟨i + 1, by go_num, by omega, HRO2.out, HW22.out⟩
                    · simp only [intOf]; omega
                · have t1 : ¬ (i : Int) < (fl : Int) := by omega
                  have hie : i = fl := by omega
                  have HJ : Hid (Rw entK Any wr (.slice ja jl jc) left) := by
                    have h1 := HRO.out.rows.any
                    rw [hie, ← HFN.out, List.take_of_length_le (Nat.le_refl _), HFM.out] at h1
                    exact h1
                  have HLA2 := Lib.hid (HLA.out.below HBi.out)
                  have HW22 : Hid (Below W.heap.size W wr) := HW20.out.trans (HBi.out.mono HW20.out.size)
                  clear HRO HBi hie
                  go_wp2_with fail
                  refine Calls.mono (kentries_same _ _ _ _ left _ HJ.out HLA2.out) ?_
                  rintro _ w23 ⟨rfl, hb⟩
                  have HW23 : Hid (Below W.heap.size W w23) := HW22.out.trans (hb.mono HW22.out.size)
                  clear hb HJ HLA2
                  go_wp2_with fail
                  go_ret
                  exact ⟨rfl, HW23.out⟩
end Go.Proofs.Ytmpapipobjoboaa
