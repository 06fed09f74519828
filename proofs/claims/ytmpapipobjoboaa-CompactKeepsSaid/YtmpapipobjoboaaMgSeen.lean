/- The law MergeSeen: its walk. -/
import Derived.Test.YtmpapipobjoboaaMgDeal
import Derived.Test.YtmpapipobjoboaaOpenW
import Derived.Test.YtmpapipobjoboaaMgNames
namespace Go.Proofs.Ytmpapipobjoboaa
open Go.RowKit

/-- Four rows in one block. -/
structure R4 (gb : Nat) (w : World) (rs : List (List Ent)) : Prop where
  four : rs.length = 4
  blk : ∃ cs : Array Value, Blk w gb cs 31 ∧ cs.size = 4 ∧ ∀ k, k < 4 → ∃ u, cs[k]? = some u ∧ Rw entK (· ≠ gb) w u (rs.getD k [])

theorem R4.lt {gb : Nat} {w : World} {rs : List (List Ent)} (h : R4 gb w rs) : gb < w.heap.size := by
  obtain ⟨cs, h1, _⟩ := h.blk
  exact h1.lt
theorem R4.below {gb : Nat} {w w' : World} {rs : List (List Ent)} (h : R4 gb w rs) (hb : Below w.heap.size w w') : R4 gb w' rs := by
  obtain ⟨h0, cs, h1, h2, h3⟩ := h
  refine ⟨h0, cs, h1.below hb h1.lt, h2, fun k hk => ?_⟩
  obtain ⟨u, e, hu⟩ := h3 k hk
  exact ⟨u, e, hu.below hb⟩
theorem R4.at {gb : Nat} {w : World} {rs : List (List Ent)} (h : R4 gb w rs) {k : Nat} (hk : k < 4) : ∃ a c, w.cell? ⟨gb, k, none⟩ = some (.slice a (rs.getD k []).length c) ∧ w.frozen? ⟨gb, k, none⟩ = false ∧ Rw entK (· ≠ gb) w (.slice a (rs.getD k []).length c) (rs.getD k []) := by
  obtain ⟨h0, cs, h1, h2, h3⟩ := h
  obtain ⟨u, e, hu⟩ := h3 k hk
  obtain ⟨a, c, rfl⟩ := hu.isSlice
  exact ⟨a, c, h1.cell e, h1.free k, hu⟩
theorem keep_set {gb : Nat} {w : World} {v : Value} {r : List Ent} {k : Nat} {u : Value} (h : Rw entK (· ≠ gb) w v r) : Rw entK (· ≠ gb) (w.setCell ⟨gb, k, none⟩ u) v r := h.keep fun _j _ hj => heap_setCell_other _ _ _ _ hj
theorem R4.store {gb : Nat} {w : World} {rs : List (List Ent)} (h : R4 gb w rs) {k : Nat} (hk : k < 4) {v : Value} {r : List Ent} (hv : Rw entK (· ≠ gb) w v r) : R4 gb (w.setCell ⟨gb, k, none⟩ v) (rs.set k r) := by
  obtain ⟨h0, cs, h1, h2, h3⟩ := h
  refine ⟨by rw [List.length_set]; exact h0, _, h1.set k v, by rw [Array.size_setIfInBounds]; exact h2, fun j hj => ?_⟩
  by_cases e : k = j
  · subst e
    refine ⟨v, Array.getElem?_setIfInBounds_self_of_lt (by omega), ?_⟩
    rw [show (rs.set k r).getD k [] = r by simp [List.getD, h0, hk]]
    exact keep_set hv
  · obtain ⟨u, e1, hu⟩ := h3 j hj
    refine ⟨u, by rw [Array.getElem?_setIfInBounds_ne e]; exact e1, ?_⟩
    rw [show (rs.set k r).getD j [] = rs.getD j [] by simp [List.getD, e]]
    exact keep_set hu
theorem els_rows {F : Nat → Prop} {w : World} : ∀ (rs : List (List Ent)) (cs : List Value), cs.length = rs.length → (∀ k (hk : k < rs.length), ∃ u, cs[k]? = some u ∧ Rw entK F w u rs[k]) → Els (rowK entK) F w cs rs
  | [], cs, h, _ => List.eq_nil_of_length_eq_zero h
  | r :: rs, [], h, _ => by cases h
  | r :: rs, c :: cs, h, hk => by
    refine ⟨?_, ?_⟩
    · obtain ⟨u, e, hu⟩ := hk 0 (by simp)
      simp at e
      subst e
      exact ⟨c, rfl, hu⟩
    · refine els_rows rs cs (by simpa using h) fun k hk' => ?_
      obtain ⟨u, e, hu⟩ := hk (k + 1) (by simpa using hk')
      exact ⟨u, by simpa using e, by simpa using hu⟩
theorem R4.part {gb : Nat} {w : World} {rs : List (List Ent)} (h : R4 gb w rs) (o n cap : Nat) (ho : o + n ≤ 4) (hn : n ≤ cap) (hc : cap ≤ maxLen) : Rw (rowK entK) Any w (.slice (some ⟨gb, o, none⟩) n cap) ((rs.drop o).take n) := by
  obtain ⟨h0, cs, h1, h2, h3⟩ := h
  have hl : ((rs.drop o).take n).length = n := by rw [List.length_take, List.length_drop, h0]; omega
  refine ⟨(cs.toList.drop o).take n, ⟨_, cap, by rw [hl], by rw [hl]; exact hn, hc, (fun e => by cases e), by rw [hl, List.length_take, List.length_drop, Array.length_toList, h2]; simp [rowK]; omega, fun j u hj => ⟨_, rfl, trivial, ?_⟩⟩, els_rows _ _ (by rw [hl, List.length_take, List.length_drop, Array.length_toList, h2]; omega) fun k hk => ?_⟩
  · rw [add_plain']
    refine h1.cell ?_
    have hjn : j < n := by
      have := (List.getElem?_eq_some_iff.1 hj).1
      rw [List.length_take] at this
      omega
    rw [List.getElem?_take_of_lt hjn, List.getElem?_drop] at hj
    simpa using hj
  · rw [hl] at hk
    obtain ⟨u, e1, hu⟩ := h3 (o + k) (by omega)
    refine ⟨u, by rw [List.getElem?_take_of_lt hk, List.getElem?_drop]; simpa using e1, ?_⟩
    rw [List.getElem_take, List.getElem_drop, rat_eq (by rw [h0]; omega)]
    exact hu.any
theorem R4.whole {gb : Nat} {w : World} {rs : List (List Ent)} (h : R4 gb w rs) : Rw (rowK entK) Any w (.slice (some ⟨gb, 0, none⟩) 4 4) rs := by
  have h1 := h.part 0 4 4 (by omega) (by omega) (by simp [maxLen])
  rwa [List.drop_zero, List.take_of_length_le (by rw [h.four]; omega)] at h1
theorem R4.start {gb : Nat} {w : World} (h : Blk w gb #[.slice none 0 0, .slice none 0 0, .slice none 0 0, .slice none 0 0] 31) : R4 gb w [[], [], [], []] := by
  refine ⟨rfl, _, h, rfl, fun k hk => ⟨.slice none 0 0, ?_, ?_⟩⟩
  · match k, hk with
    | 0, _ => rfl
    | 1, _ => rfl
    | 2, _ => rfl
    | 3, _ => rfl
  · rw [show ([[], [], [], []] : List (List Ent)).getD k [] = [] by
      match k, hk with
      | 0, _ => rfl
      | 1, _ => rfl
      | 2, _ => rfl
      | 3, _ => rfl]
    exact Rw.nil _ _ _

theorem below_frozen {w w' : World} {b k : Nat} (h : Below w.heap.size w w') (hb : b < w.heap.size) : w'.frozen? ⟨b, k, none⟩ = w.frozen? ⟨b, k, none⟩ := by
  unfold World.frozen?
  rw [show w'.heap[(⟨b, k, none⟩ : Addr).block]? = w.heap[b]? from h.block b hb]
theorem make_rows4 (w : World) : (Instr.makeSlice 22 (.int .i64 4) (.int .i64 4)).run Try.prog w = .ok (.slice (some ⟨w.heap.size, 0, none⟩) 4 4) (w.alloc (.cells #[.slice none 0 0, .slice none 0 0, .slice none 0 0, .slice none 0 0] 31)) := by kernel_rfl

set_option maxRecDepth 100000 in
set_option maxHeartbeats 8000000 in
theorem mergeSeen_any (W : World) (vl vd : Value) (l : List Ent) (ds : List Int) (s : Int) (hl : Rw entK (· < W.heap.size) W vl l) (hq : ∀ e ∈ l, Ent.near e) (hd : Rw izK (· < W.heap.size) W vd ds) :
    Calls Try.prog 7 #[vl, vd, .int .u64 s] W fun e w' => e = .returned (.bool true) ∧ Below W.heap.size W w' := by
  obtain ⟨la, lc, rfl⟩ := hl.isSlice
  obtain ⟨da, dc, rfl⟩ := hd.isSlice
  have hll := hl.len
  have hdl := hd.len
  simp only [maxLen] at hll hdl
  have HL := Lib.hid hl
  have HQ : Hid (∀ e ∈ l, e.key.length ≤ 140737488355328 ∧ e.value.length ≤ 140737488355328) := fun e he => ⟨Nat.le_trans (hq e he).1 (by decide), Nat.le_trans (hq e he).2 (by decide)⟩
  have HD := Lib.hid hd
  clear hl hq hd
  obtain ⟨n, hn⟩ : ∃ n, l.length = n := ⟨_, rfl⟩
  have HN := Lib.hid hn
  rw [hn] at HL hll
  rw [hn]
  clear hn
  obtain ⟨nd, hnd⟩ : ∃ n, ds.length = n := ⟨_, rfl⟩
  have HND := Lib.hid hnd
  rw [hnd] at HD hdl
  rw [hnd]
  clear hnd
  go_enter Try.func7, Try.ntmps7
  go_wp2_with fail
  refine Calls.mono (mlives_any _) ?_
  rintro _ w1 ⟨rfl, hb⟩
  have HW1 := Lib.hid hb
  clear hb
  by_cases hn : n ≤ 150
  case neg =>
    have t1 : (150 : Int) < (n : Int) := by omega
    go_wp2_with fail
    go_ret
    exact ⟨rfl, HW1.out⟩
  have t1 : ¬ (150 : Int) < (n : Int) := by omega
  go_wp2_with fail
  refine Calls.mono (kweighW_any _ _ l _ (HL.out.below HW1.out)) ?_
  rintro _ w2 ⟨rfl, hd⟩
  have HW2 : Hid (Below W.heap.size W w2) := HW1.out.trans ((below_drewN hd).mono HW1.out.size)
  clear hd HW1 t1
  generalize weighW l = wt
  by_cases hwt : 15000 < wt
  case pos =>
    go_wp2_with fail
    go_ret
    exact ⟨rfl, HW2.out⟩
  have hmk := make_rows4
  go_upto_block 0 with fail
  refine wp_gen fun w3 hw3 => ?_
  have HW3 : Hid (Below W.heap.size W w3) := by rw [hw3]; exact HW2.out.alloc HW2.out.size _
  have HR3 : Hid (R4 w2.heap.size w3 [[], [], [], []]) := by rw [hw3]; exact R4.start (Blk.at_new rfl rfl)
  have HGB : Hid (W.heap.size ≤ w2.heap.size) := HW2.out.size
  clear hw3 HW2 hwt hmk
  generalize w2.heap.size = gb at *
  go_cut [8] from 9 to 71 (fun av wx => ∃ a c all rs, av = .slice a all.length c ∧ Hid (Rw entK (· ≠ gb) wx (.slice a all.length c) all) ∧ Hid (R4 gb wx rs) ∧ Hid (Dealt l n all rs) ∧ Hid (Below W.heap.size W wx))
  case first =>
    go_wp2_with fail
    go_loopw [8, 9] (fun av iv wr => ∃ i a c all rs, iv = .int .i64 ((i : Nat) : Int) ∧ i ≤ n ∧ av = .slice a all.length c ∧ Hid (Rw entK (· ≠ gb) wr (.slice a all.length c) all) ∧ Hid (R4 gb wr rs) ∧ Hid (Dealt l i all rs) ∧ Hid (Below W.heap.size W wr)) (fun _ iv _ => n - (intOf iv).toNat)
    case atStart => exact ⟨0, none, 0, [], [[], [], [], []], rfl, by omega, rfl, Rw.nil _ _ _, HR3.out, Dealt.start l, HW3.out⟩
    case round =>
      obtain ⟨i, a, c, all, rs, rfl, hi, rfl, HA, HR, HDE, HB⟩ := hrel
      clear HR3 HW3
      by_cases hlt : i < n
      · have t1 : (i : Int) < (n : Int) := by omega
        have hl1 : i < l.length := by rw [HN.out]; omega
        obtain ⟨ba, oa, capa, ea, _, hba, hca⟩ := ents_at (HL.out.below HB.out) (by omega)
        obtain ⟨k1, v1, hk1, hv1, hc1⟩ := hca i hl1
        injection ea with e1 e2 e3
        subst e1 e3
        clear e2 hca
        have HIN : Hid (eat l i ∈ l) := by rw [← eat_eq hl1]; exact List.getElem_mem _
        rw [eat_eq hl1] at hk1 hv1 hc1
        generalize eat l i = e at HIN hk1 hv1 hc1
        obtain ⟨ka, kc, rfl⟩ := hk1.isSlice
        obtain ⟨va, vc, rfl⟩ := hv1.isSlice
        have HK : Hid (Bytes (· ≠ gb) wr (.slice ka e.key.length kc) e.key) := hk1.mono fun j _ hj => by have := HGB.out; omega
        have HV : Hid (Bytes (· ≠ gb) wr (.slice va e.value.length vc) e.value) := hv1.mono fun j _ hj => by have := HGB.out; omega
        obtain ⟨c0, c1, c2, c3⟩ := hc1
        have HC : Hid (C4o ba (oa + i * 4) e (.slice ka e.key.length kc) (.slice va e.value.length vc) wr) := ⟨c0, c1, c2, c3⟩
        have HBA : Hid (ba < wr.heap.size) := hba
        clear hk1 hv1 hba hl1
        go_wp2_with fail
        refine Calls.mono (rput_any (· ≠ gb) _ (.slice ka e.key.length kc) (.slice va e.value.length vc) all e _ HA.out HK.out HV.out (by have := HDE.out.alen; omega)) ?_
        rintro _ w4 ⟨p, a4, c4, hp, rfl, hr4, hb4⟩
        have HP := Lib.hid hp
        have HR4 : Hid (Rw entK (· ≠ gb) w4 (.slice a4 (putAt e all p).length c4) (putAt e all p)) := hr4.mono fun j _ hj => by have := HR.out.lt; rcases hj with hj | hj; exact hj; omega
        have HFEW : Hid ((putAt e all p).length ≤ 1000) := by show _ ≤ _; rw [putAt_len e all hp.le]; have := HDE.out.alen; omega
        have HB4 := Lib.hid hb4
        clear hp hr4 hb4 c0 c1 c2 c3
        obtain ⟨more, hmore⟩ : ∃ m, putAt e all p = m := ⟨_, rfl⟩
        rw [hmore] at HR4 HFEW
        rw [hmore]
        have HM := Lib.hid hmore
        clear hmore
        go_wp2_with fail
        refine Calls.mono (rrow_any _ _ more _ HR4.out (by have := HFEW.out; omega)) ?_
        rintro _ w5 ⟨rfl, hb5⟩
        have HB5 := Lib.hid (HB4.out.trans (hb5.mono HB4.out.size))
        have HR5 := Lib.hid (HR4.out.below hb5)
        have HA5 := Lib.hid (HA.out.below HB5.out)
        have HRS5 := Lib.hid (HR.out.below HB5.out)
        have HW5 : Hid (Below W.heap.size W w5) := HB.out.trans (HB5.out.mono HB.out.size)
        have HK5 := Lib.hid (HK.out.below HB5.out)
        have HV5 := Lib.hid (HV.out.below HB5.out)
        have HC5 := Lib.hid (HC.out.keep HB5.out HBA.out)
        have HBX : Hid (ba < w5.drew.heap.size) := Nat.lt_of_lt_of_le HBA.out HB5.out.size
        clear hb5 HR4 HA HR HB HK HV HC HB4 HB5 HBA
        cases hrb : rowB more with
        | false =>
          go_wp2_with fail
          go_roundw
          · exact ⟨i + 1, a, c, all, rs, by go_num, by omega, rfl, HA5.out, HRS5.out, HDE.out.skip, HW5.out⟩
          · simp only [intOf]; omega
        | true =>
          have HSO : Hid (Sorted (putAt e all p)) := by show Sorted _; rw [HM.out]; exact rowB_sorted.1 hrb
          clear hrb HA5
          go_upto_if 54 with fail
          obtain ⟨bt, hbt⟩ : ∃ bt, decide (i < nd) = bt := ⟨_, rfl⟩
          rw [hbt]
          have HBT := Lib.hid hbt
          clear hbt
          go_cut [11] from 55 to 59 (fun kv wx => (∃ k : Nat, k < 4 ∧ kv = .int .i64 (k : Int)) ∧ w5 = wx)
          case first =>
            cases bt with
            | true =>
              have hid : i < nd := of_decide_eq_true HBT.out
              obtain ⟨pb, po, pcap, ep, _, hcp⟩ := izs_at (HD.out.below HW5.out) (by rw [HND.out]; omega)
              have hip' : i < ds.length := by rw [HND.out]; exact hid
              obtain ⟨hc1, hz1, hz2⟩ := hcp i hip'
              injection ep with ep1 ep2 ep3
              subst ep1 ep3
              clear ep2 hcp
              generalize ds[i] = x at *
              clear hip'
              go_wp2_with fail
              refine Calls.mono (pick_any x 4 w5 hz1 hz2 (by decide) (by decide)) ?_
              rintro _ _ ⟨k, hk, rfl, rfl⟩
              go_wp2_with fail
              go_meet
              exact ⟨⟨k, hk, rfl⟩, rfl⟩
            | false =>
              go_wp2_with fail
              go_meet
              exact ⟨⟨0, by decide, rfl⟩, rfl⟩
          case rest =>
            obtain ⟨⟨k, hk, rfl⟩, rfl⟩ := hcut
            obtain ⟨ua, uc, g1, g2, hu⟩ := HRS5.out.at hk
            have HU := Lib.hid hu
            clear hu
            have t5 : (k : Int) < 4 := by omega
            have t6 : 0 ≤ (k : Int) := by omega
            have t7 : 0 ≤ (i : Int) := by omega
            have HRL : Hid ((rs.getD k []).length ≤ 1000) := by
              have h1 := HDE.out.rlen (rs.getD k []) (by rw [← rat_eq (by rw [HDE.out.four]; exact hk)]; exact List.getElem_mem _)
              show _ ≤ _
              omega
            have HCK : Hid (w5.cell? ⟨gb, k, none⟩ = some (.slice ua (rs.getD k []).length uc)) := g1
            obtain ⟨r, hr⟩ : ∃ r, rs.getD k [] = r := ⟨_, rfl⟩
            have HRK := Lib.hid hr
            rw [hr] at HU HRL g1
            clear hr HCK
            have HCC : Hid (w5.drew.cell? ⟨gb, k, none⟩ = some (.slice ua r.length uc)) := g1
            have HFZ : Hid (w5.drew.frozen? ⟨gb, k, none⟩ = false) := g2
            have HC6 : Hid (C4o ba (oa + i * 4) e (.slice ka e.key.length kc) (.slice va e.value.length vc) w5.drew) := HC5.out
            have HRD : Hid (R4 gb w5.drew rs) := HRS5.out.below (below_drew (Below.refl _ _))
            have HUD : Hid (Rw entK (· ≠ gb) w5.drew (.slice ua r.length uc) r) := HU.out.below (below_drew (Below.refl _ _))
            have HKD : Hid (Bytes (· ≠ gb) w5.drew (.slice ka e.key.length kc) e.key) := HK5.out.below (below_drew (Below.refl _ _))
            have HVD : Hid (Bytes (· ≠ gb) w5.drew (.slice va e.value.length vc) e.value) := HV5.out.below (below_drew (Below.refl _ _))
            obtain ⟨d0, d1, d2, d3⟩ := HC6.out
            clear g1 g2
            go_wp2_with fail
            have z0 := HCC.out
            have z1 := HFZ.out
            go_region_law (first | (go_simp; go_at_call 29; refine Calls.mono (rput_any (· ≠ gb) _ (.slice ka e.key.length kc) (.slice va e.value.length vc) r e _ HUD.out HKD.out HVD.out (by have := HRL.out; omega)) ?_; rintro _ x1 ⟨q, a6, c6, hq, rfl, hr6, hbx1⟩; have y0 := (hbx1.cell (p := ⟨gb, k, none⟩) HRD.out.lt).trans HCC.out; have y1 := (below_frozen (k := k) hbx1 HRD.out.lt).trans HFZ.out))
            all_goals
              have HBX1 : Hid (Below w5.heap.size w5 x1) := below_of_drew hbx1
              have HR7 : Hid (R4 gb (x1.setCell ⟨gb, k, none⟩ (.slice a6 (putAt e r q).length c6)) (rs.set k (putAt e r q))) := (HRS5.out.below HBX1.out).store hk (hr6.mono fun j _ hj => by
                rcases hj with hj | hj
                · exact hj
                · exact Nat.ne_of_gt (Nat.lt_of_lt_of_le HRD.out.lt hj))
              have HA7 : Hid (Rw entK (· ≠ gb) (x1.setCell ⟨gb, k, none⟩ (.slice a6 (putAt e r q).length c6)) (.slice a4 more.length c4) more) := keep_set (HR5.out.below HBX1.out)
              have HW7 : Hid (Below W.heap.size W (x1.setCell ⟨gb, k, none⟩ (.slice a6 (putAt e r q).length c6))) := (HW5.out.trans (HBX1.out.mono HW5.out.size)).setCell HGB.out _
              have HD7 : Hid (Dealt l (i + 1) more (rs.set k (putAt e r q))) := by
                have h1 := HDE.out.put HIN.out HP.out HSO.out hk (q := q) (by rw [HRK.out]; exact hq)
                rw [HM.out, HRK.out] at h1
                exact h1
              clear HR5 HRS5 HK5 HV5 HC5 HBX HBX1 HUD HKD HVD hbx1 hr6 hq y0 y1 z0 z1 HCC HFZ HC6 HRD HU d0 d1 d2 d3
              go_wp2_with fail
              go_roundw
              · exact ⟨i + 1, a4, c4, more, _, by go_num, by omega, rfl, HA7.out, HR7.out, HD7.out, HW7.out⟩
              · simp only [intOf]; omega
      · have t1 : ¬ (i : Int) < (n : Int) := by omega
        have hin : i = n := by omega
        subst hin
        go_wp2_with fail
        go_meet
        exact ⟨a, c, all, rs, rfl, HA.out, HR.out, HDE.out, HB.out⟩
  case rest =>
    obtain ⟨a, c, all, rs, rfl, HA, HR, HDE, HB⟩ := hcut
    clear HR3 HW3
    have HOK : Hid (ROk rs) := HDE.out.ok (by omega) (fun r hr => hr) (by rw [HDE.out.four]; omega) HQ.out
    have HOK1 : Hid (ROk (rs.take 2)) := HDE.out.ok (by omega) (fun r hr => List.mem_of_mem_take hr) (by rw [List.length_take]; omega) HQ.out
    have HOK2 : Hid (ROk (rs.drop 2)) := HDE.out.ok (by omega) (fun r hr => List.mem_of_mem_drop hr) (by rw [List.length_drop, HDE.out.four]; omega) HQ.out
    have HOK3 : Hid (ROk [allOf (rs.take 2), allOf (rs.drop 2)]) := HDE.out.ok2 (by omega) 2 HQ.out
    obtain ⟨X, hx⟩ : ∃ X, rseenGo s none all = X := ⟨_, rfl⟩
    have HX := Lib.hid hx
    have HSX : Hid (seenR s rs = X) := by
      show seenR s rs = X
      unfold seenR
      rw [HDE.out.all, ← rseen_seen s HDE.out.sort, hx]
    obtain ⟨q, hq⟩ : ∃ q, X.length = q := ⟨_, rfl⟩
    have HQX := Lib.hid hq
    obtain ⟨m, hm⟩ : ∃ m, all.length = m := ⟨_, rfl⟩
    have HM := Lib.hid hm
    have hmn : m ≤ n := by rw [← hm]; exact HDE.out.alen
    rw [hm] at HA
    rw [hm]
    clear hx hq hm
    go_wp2_with fail
    refine Calls.mono (own11_any Any _ rs _ HR.out.whole HOK.out) ?_
    rintro _ w4 ⟨v4, rfl, ho, hb⟩
    obtain ⟨o4, c4, rfl⟩ := ho.isSlice
    have HO4 := Lib.hid (orowRw ho.ge).any
    have HB := Lib.hid (HB.out.trans (hb.mono HB.out.size))
    have HA := Lib.hid (HA.out.below hb)
    have HR := Lib.hid (HR.out.below hb)
    clear ho hb
    go_wp2_with fail
    refine Calls.mono (mseen_ok Any _ rs s X q HQX.out _ HO4.out HOK.out (HDE.out.chk fun r hr => hr) HSX.out) ?_
    rintro _ w5 ⟨a5, c5, rfl, hg, hb⟩
    have HG := Lib.hid hg.any
    have HB := Lib.hid (HB.out.trans (hb.mono HB.out.size))
    have HA := Lib.hid (HA.out.below hb)
    have HR := Lib.hid (HR.out.below hb)
    clear hg hb HO4 HOK HSX
    have HA' : Hid (Rw entK (fun k => k < w5.heap.size) w5 (.slice a m c) all) := HA.out.mono fun k hk _ => hk
    clear HA
    go_wp2_with fail
    go_loopw [14, 15] (fun ov iv wr => ∃ (j : Nat), iv = .int .i64 (j : Int) ∧ j ≤ m ∧ Hid (ROwnF entK (fun k => k < w5.heap.size) w5.heap.size 29 wr ov (rseenGo s none (all.take j))) ∧ Hid (Below w5.heap.size w5 wr)) (fun _ iv _ => m - (intOf iv).toNat)
    case atStart => exact ⟨0, rfl, by omega, ROwnF.nil _ _ _ _ _, Below.refl _ _⟩
    case round =>
      obtain ⟨j, rfl, hj, HRO, HB5⟩ := hrel
      obtain ⟨oo, oc, rfl⟩ := HRO.out.isSlice
      by_cases hlt : j < m
      · have t1 : (j : Int) < (m : Int) := by omega
        have hl1 : j < all.length := by rw [HM.out]; omega
        have HWT : Hid (NewTo s all (eat all j) m → (eat all j).kind = 1 → rseenGo s none (all.take (j + 1)) = rseenGo s none (all.take j) ++ [eat all j]) := fun h1 h2 => by
          rw [want_step hl1, if_pos ⟨(new_hid HDE.out.sort hl1).2 (by rw [HM.out]; exact h1), h2⟩]
        have HWF : Hid (¬ (NewTo s all (eat all j) m ∧ (eat all j).kind = 1) → rseenGo s none (all.take (j + 1)) = rseenGo s none (all.take j)) := fun h1 => by
          rw [want_step hl1, if_neg (fun h2 => h1 ⟨by rw [← HM.out]; exact (new_hid HDE.out.sort hl1).1 h2.1, h2.2⟩), List.append_nil]
        have HLen : Hid ((rseenGo s none (all.take j)).length < 1000000) := by
          have h1 := rseenGo_len s (all.take j) none
          rw [List.length_take] at h1
          show _ < _
          omega
        obtain ⟨ba, oa, capa, ea, _, hba, hca⟩ := ents_at HA'.out (by omega)
        injection ea with e1 e2 e3
        subst e1 e3
        clear e2
        have HCA : Hid (∀ i, i < m → ∃ vk vv, Bytes (fun k => k < w5.heap.size) w5 vk (eat all i).key ∧ Bytes (fun k => k < w5.heap.size) w5 vv (eat all i).value ∧ C4o ba (oa + i * 4) (eat all i) vk vv w5) := by
          intro i hi
          have hil : i < all.length := by rw [HM.out]; exact hi
          obtain ⟨vk, vv, g1, g2, g3⟩ := hca i hil
          rw [eat_eq hil] at g1 g2 g3
          exact ⟨vk, vv, g1, g2, g3⟩
        have HBA : Hid (ba < w5.heap.size) := hba
        clear hca hba hl1
        obtain ⟨k1, v1, hk1, hv1, hc1⟩ := HCA.out j hlt
        obtain ⟨e, he⟩ : ∃ e, eat all j = e := ⟨_, rfl⟩
        have HE := Lib.hid he
        rw [he] at HWT HWF hk1 hv1 hc1
        clear he
        obtain ⟨ka, kc, rfl⟩ := hk1.isSlice
        obtain ⟨va, vc, rfl⟩ := hv1.isSlice
        have HK := Lib.hid (hk1.below HB5.out)
        have HV := Lib.hid (hv1.below HB5.out)
        have HC := Lib.hid (C4o.keep hc1 HB5.out HBA.out)
        obtain ⟨c0, c1, c2, c3⟩ := HC.out
        clear hk1 hv1 hc1
        obtain ⟨qo, hqo⟩ : ∃ q, (rseenGo s none (all.take j)).length = q := ⟨_, rfl⟩
        have HQO := Lib.hid hqo
        rw [hqo] at HRO
        rw [hqo]
        clear hqo
        obtain ⟨wo, rfl⟩ : ∃ wo : World, wo = wr := ⟨_, rfl⟩
        go_wp2_with fail
        go_loopw [16, 17] (fun nv kv wr => ∃ (k : Nat) (nb : Bool), kv = .int .i64 (k : Int) ∧ k ≤ m ∧ nv = .bool nb ∧ Hid (nb = true ↔ NewTo s all e k) ∧ Hid (Below wo.heap.size wo wr)) (fun _ kv _ => m - (intOf kv).toNat)
        case atStart => exact ⟨0, decide (e.seq ≤ s), rfl, by omega, rfl, (by rw [NewTo.zero]; exact decide_eq_true_iff), Below.refl _ _⟩
        case round =>
          obtain ⟨k, nb, rfl, hk, rfl, HNB, HBk⟩ := hrel
          clear c0 c1 c2 c3
          by_cases hkl : k < m
          · have t2 : (k : Int) < (m : Int) := by omega
            have t3 : 0 ≤ (k : Int) := by omega
            have t4 : 0 ≤ (j : Int) := by omega
            obtain ⟨k2, v2, hk2, _, hc2⟩ := HCA.out k hkl
            obtain ⟨f, hf⟩ : ∃ f, eat all k = f := ⟨_, rfl⟩
            have HF := Lib.hid hf
            rw [hf] at hk2 hc2
            clear hf
            obtain ⟨ka2, kc2, rfl⟩ := hk2.isSlice
            have HBw : Hid (Below w5.heap.size w5 wr) := HB5.out.trans (HBk.out.mono HB5.out.size)
            have HKf := Lib.hid (hk2.below HBw.out)
            have HKe := Lib.hid (HK.out.below HBk.out)
            obtain ⟨c0, c1, c2, c3⟩ := C4o.keep HC.out HBk.out (Nat.lt_of_lt_of_le HBA.out HB5.out.size)
            obtain ⟨d0, d1, d2, d3⟩ := C4o.keep hc2 HBw.out HBA.out
            clear hk2 hc2
            by_cases h1 : f.key = e.key
            · have HK1 := Lib.hid (decide_eq_true h1)
              by_cases h2 : f.seq ≤ s
              · by_cases h3 : e.seq < f.seq
                · have HOV : Hid (Over s (eat all k) e) := by show Over s (eat all k) e; rw [HF.out]; exact ⟨h1, h2, h3⟩
                  clear h1
                  go_wp2_with fail
                  go_quiet ((go_at_call 32; refine Calls.quiet_of (kbytes_at (b := true) _ _ _ _ _ _ _ (HKf.out.keep (fun _ _ _ => rfl)) (HKe.out.keep (fun _ _ _ => rfl)) HK1.out)))
                  all_goals
                    go_wp2_with fail
                    go_roundw
                    · exact ⟨k + 1, false, by go_num, by omega, rfl, ⟨(fun h => by cases h), fun h => absurd h (NewTo.succ_over HOV.out)⟩, below_dn HBk.out _⟩
                    · simp only [intOf]; omega

                · have HOV : Hid (¬ Over s (eat all k) e) := by show ¬ Over s (eat all k) e; rw [HF.out]; exact fun h => h3 h.2.2
                  clear h1
                  go_wp2_with fail
                  go_quiet ((go_at_call 32; refine Calls.quiet_of (kbytes_at (b := true) _ _ _ _ _ _ _ (HKf.out.keep (fun _ _ _ => rfl)) (HKe.out.keep (fun _ _ _ => rfl)) HK1.out)))
                  all_goals
                    go_wp2_with fail
                    go_roundw
                    · exact ⟨k + 1, nb, by go_num, by omega, rfl, (HNB.out.trans (NewTo.succ_not HOV.out).symm), below_dn HBk.out _⟩
                    · simp only [intOf]; omega

              · have HOV : Hid (¬ Over s (eat all k) e) := by show ¬ Over s (eat all k) e; rw [HF.out]; exact fun h => h2 h.2.1
                have g2 : decide (f.seq ≤ s) = false := decide_eq_false h2
                clear h1
                go_wp2_with fail
                go_quiet ((go_at_call 32; refine Calls.quiet_of (kbytes_at (b := true) _ _ _ _ _ _ _ (HKf.out.keep (fun _ _ _ => rfl)) (HKe.out.keep (fun _ _ _ => rfl)) HK1.out)))
                all_goals
                  go_wp2_with fail
                  go_roundw
                  · exact ⟨k + 1, nb, by go_num, by omega, rfl, (HNB.out.trans (NewTo.succ_not HOV.out).symm), below_dn HBk.out _⟩
                  · simp only [intOf]; omega

            · have HK1 := Lib.hid (decide_eq_false h1)
              have HOV : Hid (¬ Over s (eat all k) e) := by show ¬ Over s (eat all k) e; rw [HF.out]; exact fun h => h1 h.1
              clear h1
              go_wp2_with fail
              go_quiet ((go_at_call 32; refine Calls.quiet_of (kbytes_at (b := false) _ _ _ _ _ _ _ (HKf.out.keep (fun _ _ _ => rfl)) (HKe.out.keep (fun _ _ _ => rfl)) HK1.out)))
              all_goals
                go_wp2_with fail
                go_roundw
                · exact ⟨k + 1, nb, by go_num, by omega, rfl, (HNB.out.trans (NewTo.succ_not HOV.out).symm), below_dn HBk.out _⟩
                · simp only [intOf]; omega

          · have t2 : ¬ (k : Int) < (m : Int) := by omega
            have t4 : 0 ≤ (j : Int) := by omega
            have hkm : k = m := by omega
            subst hkm
            have HRO := Lib.hid (HRO.out.below HBk.out)
            have HK := Lib.hid (HK.out.below HBk.out)
            have HV := Lib.hid (HV.out.below HBk.out)
            obtain ⟨c0, c1, c2, c3⟩ := C4o.keep HC.out HBk.out (Nat.lt_of_lt_of_le HBA.out HB5.out.size)
            have HB6 : Hid (Below w5.heap.size w5 wr) := HB5.out.trans (HBk.out.mono HB5.out.size)
            clear HBk HC
            by_cases hk1 : e.kind = 1
            · cases nb with
              | true =>
                have HTS : Hid (rseenGo s none (all.take (j + 1)) = rseenGo s none (all.take j) ++ [e]) := HWT.out (HNB.out.1 rfl) hk1
                generalize rseenGo s none (all.take j) = out at *
                clear HWT HWF
                go_wp2_with (with_reducible refine pause_append ?_)
                refine list_gen fun w6 hw6 => ?_
                have HB7 : Hid (Below wr.heap.size wr w6) := by rw [hw6]; exact (Below.refl _ _).alloc (Nat.le_refl _) _
                have HS6 : Hid (Blk w6 wr.heap.size (entCells e (.slice ka e.key.length kc) (.slice va e.value.length vc)).toArray 29) := by rw [hw6]; exact Blk.at_new rfl (by simp [entCells, hk1])
                clear hw6 c0 c1 c2 c3
                have HT6 : Hid (Below w5.heap.size w5 w6) := HB6.out.trans (HB7.out.mono HB6.out.size)
                have HRO6 := Lib.hid (HRO.out.below HB7.out)
                rw [← HQO.out]
                rw [← HQO.out] at HRO6
                refine Pause.go (wpList_append_elF (K := entK) 31 29 _ 64 Try.underlying31 info_entO rfl (fun k => k < w5.heap.size) w5.heap.size (.slice oo out.length oc) out wr.heap.size 29 _ e rfl _ _ rfl rfl rfl HRO6.out HS6.out
                  ⟨_, _, rfl, (HK.out.below HB7.out).mono fun j _ hj => ⟨hj, fun e1 => by have := (HRO6.out.lt j e1).1; omega⟩, (HV.out.below HB7.out).mono fun j _ hj => ⟨hj, fun e1 => by have := (HRO6.out.lt j e1).1; omega⟩⟩ HLen.out (by decide) HT6.out.size ?_)
                intro v8 w8 hro hg
                have HRO8 : Hid (ROwnF entK (fun k => k < w5.heap.size) w5.heap.size 29 w8 v8 (rseenGo s none (all.take (j + 1)))) := by rw [HTS.out]; exact hro
                have HB8 : Hid (Below w5.heap.size w5 w8) := HT6.out.trans (hg.below HT6.out.size fun k e0 => (HRO6.out.lt k e0).1)
                clear hro hg HRO6 HRO HS6 HK HV
                go_wp2_with fail
                go_roundw
                · exact ⟨j + 1, by go_num, by omega, HRO8.out, HB8.out⟩
                · simp only [intOf]; omega
              | false =>
                have HRO8 : Hid (ROwnF entK (fun k => k < w5.heap.size) w5.heap.size 29 wr (.slice oo qo oc) (rseenGo s none (all.take (j + 1)))) := by rw [HWF.out fun h => by have := HNB.out.2 h.1; cases this]; exact HRO.out
                clear HRO HK HV
                go_wp2_with fail
                go_roundw
                · exact ⟨j + 1, by go_num, by omega, HRO8.out, HB6.out⟩
                · simp only [intOf]; omega
            · have HRO8 : Hid (ROwnF entK (fun k => k < w5.heap.size) w5.heap.size 29 wr (.slice oo qo oc) (rseenGo s none (all.take (j + 1)))) := by rw [HWF.out fun h => hk1 h.2]; exact HRO.out
              clear HRO HK HV
              cases nb with
              | true =>
                go_wp2_with fail
                go_roundw
                · exact ⟨j + 1, by go_num, by omega, HRO8.out, HB6.out⟩
                · simp only [intOf]; omega
              | false =>
                go_wp2_with fail
                go_roundw
                · exact ⟨j + 1, by go_num, by omega, HRO8.out, HB6.out⟩
                · simp only [intOf]; omega
      · have t1 : ¬ (j : Int) < (m : Int) := by omega
        have HWX : Hid (Rw entK Any wr (.slice oo (rseenGo s none (all.take j)).length oc) X) := by
          have h1 := HRO.out.rows.any
          have h2 : rseenGo s none (all.take j) = X := by rw [List.take_of_length_le (by rw [HM.out]; omega)]; exact HX.out
          rw [h2] at h1 ⊢
          exact h1
        clear HRO
        generalize (rseenGo s none (all.take j)).length = qo at *
        have HR6 := Lib.hid (HR.out.below HB5.out)
        have HG6 := Lib.hid (HG.out.below HB5.out)
        have HA6 := Lib.hid (HA'.out.below HB5.out).any
        have HW6 : Hid (Below W.heap.size W wr) := HB.out.trans (HB5.out.mono HB.out.size)
        clear HR HG HA' HB HB5
        go_wp2_with fail
        refine Calls.mono (kentries_same _ _ _ _ X _ HG6.out HWX.out) ?_
        rintro _ w7 ⟨rfl, hb⟩
        have HR7 := Lib.hid (HR6.out.below hb)
        have HA7 := Lib.hid (HA6.out.below hb)
        have HW7 : Hid (Below W.heap.size W w7) := HW6.out.trans (hb.mono HW6.out.size)
        clear hb HR6 HA6 HW6 HG6 HWX
        have HC3 := Lib.hid (HDE.out.twice 2)
        obtain ⟨A1, ha1⟩ : ∃ A, allOf (rs.take 2) = A := ⟨_, rfl⟩
        obtain ⟨A2, ha2⟩ : ∃ A, allOf (rs.drop 2) = A := ⟨_, rfl⟩
        have HA1 := Lib.hid ha1
        have HA2 := Lib.hid ha2
        rw [ha1, ha2] at HC3 HOK3
        clear ha1 ha2
        obtain ⟨q1, hq1⟩ : ∃ q, A1.length = q := ⟨_, rfl⟩
        have HQ1 := Lib.hid hq1
        obtain ⟨q2, hq2⟩ : ∃ q, A2.length = q := ⟨_, rfl⟩
        have HQ2 := Lib.hid hq2
        have HP1 : Hid (Rw (rowK entK) Any w7 (.slice (some ⟨gb, 0, none⟩) 2 4) (rs.take 2)) := HR7.out.part 0 2 4 (by omega) (by omega) (by simp [maxLen])
        clear hq1 hq2
        go_wp2_with fail
        refine Calls.mono (own11_any Any _ (rs.take 2) _ HP1.out HOK1.out) ?_
        rintro _ w8 ⟨v8, rfl, ho, hb⟩
        obtain ⟨o8, c8, rfl⟩ := ho.isSlice
        have HO8 := Lib.hid (orowRw ho.ge).any
        have HR8 := Lib.hid (HR7.out.below hb)
        have HA8 := Lib.hid (HA7.out.below hb)
        have HW8 : Hid (Below W.heap.size W w8) := HW7.out.trans (hb.mono HW7.out.size)
        clear ho hb HR7 HA7 HW7 HP1
        generalize (rs.take 2).length = r2 at *
        go_wp2_with fail
        refine Calls.mono (mall_ok Any _ (rs.take 2) A1 q1 HQ1.out _ HO8.out HOK1.out (HDE.out.chk fun r hr => List.mem_of_mem_take hr) HA1.out) ?_
        rintro _ w9 ⟨a9, c9, rfl, hr, hb⟩
        have HG9 := Lib.hid hr.any
        have HR9 := Lib.hid (HR8.out.below hb)
        have HA9 := Lib.hid (HA8.out.below hb)
        have HW9 : Hid (Below W.heap.size W w9) := HW8.out.trans (hb.mono HW8.out.size)
        clear hr hb HR8 HA8 HW8 HO8
        have HP2 : Hid (Rw (rowK entK) Any w9 (.slice (some ⟨gb, 2, none⟩) 2 2) (rs.drop 2)) := by
          have h1 := HR9.out.part 2 2 2 (by omega) (by omega) (by simp [maxLen])
          rw [List.take_of_length_le (by rw [List.length_drop, HDE.out.four]; omega)] at h1
          exact h1
        go_wp2_with fail
        refine Calls.mono (own11_any Any _ (rs.drop 2) _ HP2.out HOK2.out) ?_
        rintro _ w10 ⟨v10, rfl, ho, hb⟩
        obtain ⟨o10, c10, rfl⟩ := ho.isSlice
        have HO10 := Lib.hid (orowRw ho.ge).any
        have HG10 := Lib.hid (HG9.out.below hb)
        have HA10 := Lib.hid (HA9.out.below hb)
        have HW10 : Hid (Below W.heap.size W w10) := HW9.out.trans (hb.mono HW9.out.size)
        clear ho hb HR9 HA9 HW9 HP2 HG9
        generalize (rs.drop 2).length = r3 at *
        go_wp2_with fail
        refine Calls.mono (mall_ok Any _ (rs.drop 2) A2 q2 HQ2.out _ HO10.out HOK2.out (HDE.out.chk fun r hr => List.mem_of_mem_drop hr) HA2.out) ?_
        rintro _ w11 ⟨a11, c11, rfl, hr, hb⟩
        have HG11 := Lib.hid hr.any
        have HF11 := Lib.hid (HG10.out.below hb)
        have HA11 := Lib.hid (HA10.out.below hb)
        have HW11 : Hid (Below W.heap.size W w11) := HW10.out.trans (hb.mono HW10.out.size)
        clear hr hb HA10 HW10 HO10 HG10
        go_wp2_with fail
        refine calls_gen fun w12 hw12 => ?_
        have HB12 : Hid (Below w11.heap.size w11 w12) := by rw [hw12]; exact (Below.refl _ _).alloc (Nat.le_refl _) _
        have HO12 : Hid (Rw (rowK entK) Any w12 (.slice (some ⟨w11.heap.size, 0, none⟩) 2 2) [A1, A2]) := by
          have g1 := HF11.out.below HB12.out
          have g2 := HG11.out.below HB12.out
          rw [hw12] at g1 g2 ⊢
          exact rows_lit2 (Blk.at_new rfl rfl) g1 g2
        have HA12 := Lib.hid (HA11.out.below HB12.out)
        have HW12 : Hid (Below W.heap.size W w12) := HW11.out.trans (HB12.out.mono HW11.out.size)
        clear hw12 HB12 HG11 HF11 HA11 HW11
        generalize w11.heap.size = g12 at *
        refine Calls.mono (mall_ok Any _ [A1, A2] all m HM.out _ HO12.out HOK3.out HC3.out.1 HC3.out.2) ?_
        rintro _ w13 ⟨a13, c13, rfl, hr, hb⟩
        have HG13 := Lib.hid hr.any
        have HA13 := Lib.hid (HA12.out.below hb)
        have HW13 : Hid (Below W.heap.size W w13) := HW12.out.trans (hb.mono HW12.out.size)
        clear hr hb HA12 HW12 HO12
        go_wp2_with fail
        refine Calls.mono (kentries_same _ _ _ _ all _ HG13.out HA13.out) ?_
        rintro _ w14 ⟨rfl, hb⟩
        have HW14 : Hid (Below W.heap.size W w14) := HW13.out.trans (hb.mono HW13.out.size)
        clear hb HG13 HA13 HW13
        go_wp2_with fail
        go_ret
        exact ⟨rfl, HW14.out⟩
end Go.Proofs.Ytmpapipobjoboaa
