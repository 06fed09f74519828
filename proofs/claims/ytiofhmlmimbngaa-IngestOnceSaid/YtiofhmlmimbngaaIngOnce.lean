/- The law IngestOnce: its walk. -/
import Derived.Test.YtiofhmlmimbngaaOnceM
import Derived.Test.YtiofhmlmimbngaaSameSpans
import Derived.Test.YtiofhmlmimbngaaIngNew
import Derived.Test.YtiofhmlmimbngaaIngSmall
import Derived.Test.YtiofhmlmimbngaaIngA
import Derived.Test.YtiofhmlmimbngaaIngB
import Derived.Test.YtiofhmlmimbngaaDuo
import Derived.Test.YtiofhmlmimbngaaPick
namespace Go.Proofs.Ytiofhmlmimbngaa
open Go.RowKit

set_option maxRecDepth 100000 in
set_option maxHeartbeats 8000000 in
theorem ingestOnce_any (W : World) (n m : Int) (v vc : Value) (acts : List Act) (ns : List Int) (hv : Rw actK (· < W.heap.size) W v acts) (hc : Rw izK (· < W.heap.size) W vc ns) :
    Calls Try.prog 4 #[.agg #[.int .i64 n, .int .i64 m], v, vc] W fun e w' => e = .returned (.bool true) ∧ Below W.heap.size W w' := by
  obtain ⟨a, c, rfl⟩ := hv.isSlice
  obtain ⟨ca, cc, rfl⟩ := hc.isSlice
  have hML := hv.len
  have hML2 := hc.len
  simp only [maxLen] at hML hML2
  have HV := Lib.hid hv
  have HNS := Lib.hid hc
  clear hv hc
  go_enter Try.func4, Try.ntmps4
  go_wp2_with fail
  refine calls_gen fun w1 hw1 => ?_
  have HW1 : Hid (Below W.heap.size W w1) := by rw [hw1]; exact (Below.refl _ _).alloc (Nat.le_refl _) _
  have HS1 : Hid (Blk w1 W.heap.size #[.int .i64 n, .int .i64 m] 27) := by rw [hw1]; exact Blk.at_new rfl rfl
  clear hw1
  refine Calls.mono (lives19_any w1) ?_
  rintro e w2 ⟨rfl, hb2⟩
  have HW2 : Hid (Below W.heap.size W w2) := HW1.out.trans (hb2.mono HW1.out.size)
  have HS2 := Lib.hid (HS1.out.below hb2 HS1.out.lt)
  clear hb2 HW1 HS1
  go_wp2_with fail
  refine Calls.mono (small_any _ _ acts _ (HV.out.below HW2.out)) ?_
  rintro e w3 ⟨bb, rfl, hbb, hb3⟩
  have HW3 : Hid (Below W.heap.size W w3) := HW2.out.trans (hb3.mono HW2.out.size)
  have HS3 := Lib.hid (HS2.out.below hb3 HS2.out.lt)
  clear hb3 HW2 HS2
  cases bb with
  | false =>
    go_wp2_with fail
    go_ret
    exact ⟨rfl, HW3.out⟩
  | true =>
    have hsm : acts.length ≤ 150 ∧ ∀ a ∈ acts, a.l.length ≤ 20 := by first | exact hbb rfl | exact hbb trivial | exact hbb
    obtain ⟨hl, hll⟩ := hsm
    have HLL := Lib.hid hll
    clear hbb hll
    have k0 : w3.cell? ⟨W.heap.size, 0, none⟩ = some (.int .i64 n) := HS3.out.cell rfl
    have k1 : w3.cell? ⟨W.heap.size, 1, none⟩ = some (.int .i64 m) := HS3.out.cell rfl
    go_wp2_with fail
    clear k0 k1
    by_cases hbad : badSetup n m
    · refine Calls.mono (new_bad n m hbad _) ?_
      rintro e w4 ⟨rfl, hb4⟩
      have HW4 : Hid (Below W.heap.size W w4) := HW3.out.trans (hb4.mono HW3.out.size)
      clear hb4 HW3 HS3 hbad
      go_wp2_with fail
      go_ret
      exact ⟨rfl, HW4.out⟩
    · obtain ⟨n, rfl⟩ : ∃ k : Nat, n = (k : Int) := ⟨n.toNat, by unfold badSetup at hbad; omega⟩
      obtain ⟨m, rfl⟩ : ∃ k : Nat, m = (k : Int) := ⟨m.toNat, by unfold badSetup at hbad; omega⟩
      have hnm : 0 < n ∧ n ≤ 64 ∧ 0 < m ∧ m ≤ 8 := by unfold badSetup at hbad; omega
      refine Calls.mono (new_good (X := NoX) n m hnm.1 hnm.2.1 hnm.2.2.1 hnm.2.2.2 w3) ?_
      rintro e w4 ⟨b, rb, hb, rfl, hi4, hb4⟩
      have HO4 := Lib.hid (onc_new n m hi4 HW3.out.size (HW3.out.trans (hb4.mono HW3.out.size)))
      have HP4 := Lib.hid (inv_new n m hnm.2.2.1)
      generalize w3.heap.size = lo at *
      clear hb4 HW3 HS3 hi4 hbad
      generalize hq0 : (⟨n, m, 0, 0, [], List.replicate m []⟩ : Iq) = q0 at *
      have HN0 : Hid (q0.next = 0) := by show _ = _; rw [← hq0]
      clear hq0 hnm
      go_wp2_with fail
      go_loopw [9, 10, 11] (fun vi vo i wr => ∃ (j : Nat) (q : Iq) (li lq : List Sp.T), i = .int .i64 (j : Int) ∧ j ≤ acts.length ∧ Hid (q.next ≤ j) ∧ Hid (li.length ≤ 20 * j) ∧ Hid (Inv q li lq) ∧ Hid (Onc W.heap.size lo b rb hb W wr q vi vo li lq)) (fun _ _ i _ => acts.length - (intOf i).toNat)
      case atStart => exact ⟨0, q0, [], [], rfl, by omega, Nat.le_of_eq HN0.out, Nat.le_refl _, HP4, HO4⟩
      case round =>
        obtain ⟨j, q, li, lq, rfl, hj, HQ, HL, HP, HO⟩ := hrel
        by_cases hlt : j < acts.length
        · obtain ⟨sb, off, cap, ea, hsb, hc⟩ := acts_at HV.out (by omega)
          injection ea with e1 e2 e3
          subst e1 e3
          clear e2
          obtain ⟨vl, ht, hkd, c0, c1, c2⟩ := hc j hlt
          obtain ⟨la, lc, rfl⟩ := ht.isSlice
          have HT := Lib.hid ht
          have hl20 : acts[j].l.length ≤ 20 := HLL.out _ (List.getElem_mem hlt)
          replace c0 := (World.cell?_of_block (HO.out.W.block sb hsb)).trans c0
          replace c1 := (World.cell?_of_block (HO.out.W.block sb hsb)).trans c1
          replace c2 := (World.cell?_of_block (HO.out.W.block sb hsb)).trans c2
          clear hc ht
          generalize acts[j] = act at *
          obtain ⟨kd, ll, wk⟩ := act
          dsimp only at *
          have hjl : (j : Int) < (acts.length : Int) := by omega
          go_wp2_with fail
          clear c0 c1 c2
          refine calls_gen fun w1 hw1 => ?_
          have HB1 : Hid (Below wr.heap.size wr w1) := by rw [hw1]; exact (Below.refl _ _).alloc (Nat.le_refl _) _
          have HA1 : Hid (Blk w1 wr.heap.size #[.int .i64 kd, .slice la ll.length lc, .int .i64 wk] 48) := by rw [hw1]; exact Blk.at_new rfl rfl
          clear hw1
          have HO1 := Lib.hid (HO.out.below HB1.out)
          have HU : Hid (b < wr.heap.size ∧ rb < wr.heap.size ∧ hb < wr.heap.size) := ⟨HO.out.I.u1, HO.out.I.u2, HO.out.I.u3⟩
          generalize wr.heap.size = A at *
          clear HB1 HO
          refine Calls.mono (pick_any kd 3 _ hkd.1 hkd.2 (by decide) (by decide)) ?_
          rintro e w2 ⟨k, hk3, rfl, rfl⟩
          clear hkd
          by_cases hk0 : k = 0
          · subst hk0
            have hnx : q.next < 1000000 := by have := HQ.out; omega
            have hSp : w1.cell? ⟨A, 1, none⟩ = some (.slice la ll.length lc) := HA1.out.cell rfl
            go_wp2_with fail
            clear hSp
            obtain ⟨⟨er, q2⟩, hr⟩ : ∃ r, q.offer ll = r := ⟨_, rfl⟩
            have HR := Lib.hid hr
            have HQ2 : Hid (q2.next ≤ j + 1) := by have := HQ.out; have h2 := q.offer_next ll; rw [hr] at h2; dsimp only at h2; show _ ≤ _; omega
            clear hr
            refine Calls.mono (offer_any _ _ b rb hb q (· < W.heap.size) (.slice la ll.length lc) ll w1 (HT.out.keepB HO1.out.W) (by omega) HO1.out.I hnx HO1.out.apLt) ?_
            rw [HR.out]
            rintro e w3 ⟨rfl, hi3, hw3⟩
            have HA3 : Hid (Blk w3 A #[.int .i64 kd, .slice la ll.length lc, .int .i64 wk] 48) := HA1.out.same (hw3.block A HA1.out.lt (by have := HU.out; rintro (e | e) <;> omega))
            have HO3 := Lib.hid (HO1.out.impl hw3 (by rintro k (rfl | rfl); exact .inl rfl; exact .inr (.inl rfl)) hi3)
            clear hi3 hw3 HO1 HA1 hnx
            dsimp only
            by_cases he : er = 0
            · subst he
              have HP3 := Lib.hid (HP.out.offer_ok HR.out)
              have hSp : w3.cell? ⟨A, 1, none⟩ = some (.slice la ll.length lc) := HA3.out.cell rfl
              have HL3 : Hid ((li ++ ll).length ≤ 20 * (j + 1)) := by have := HL.out; show _ ≤ _; rw [List.length_append]; omega
              go_wp2_with (with_reducible refine pause_append ?_)
              clear hSp
              obtain ⟨cs, hs1, hs2⟩ := HO3.out.src (HT.out.keepB HO3.out.W)
              refine Pause.go (wpList_append_elsF (K := spanK) 37 35 _ 120 Try.underlying37 info_span rfl (· < W.heap.size) lo _ li _ ll rfl _ _ rfl rfl rfl HO3.out.vin cs _ hs1 hs2 (by have := HL.out; omega) (by decide) HO3.out.base.2 ?_)
              intro v4 w4 ho4 hg4
              have HO4 := Lib.hid (HO3.out.addIn ho4 hg4)
              clear ho4 hg4 hs1 hs2 HO3 HA3
              go_wp2_with fail
              go_roundw
              · exact ⟨j + 1, q2, li ++ ll, lq, by go_num, by omega, HQ2, HL3, HP3, HO4⟩
              · simp only [intOf]; omega
            · have he' : ((er : Int) == 0) = false := beq_eq_false_iff_ne.2 (by omega)
              have HP3 := Lib.hid (HP.out.offer_err HR.out he)
              go_wp2_with fail
              go_roundw
              · exact ⟨j + 1, q2, li, lq, by go_num, by omega, HQ2, (by have := HL.out; show _ ≤ _; omega), HP3, HO3⟩
              · simp only [intOf]; omega
          · have hk1 : ((k : Int) == 0) = false := beq_eq_false_iff_ne.2 (by omega)
            have hS1 : w1.cell? ⟨A, 2, none⟩ = some (.int .i64 wk) := HA1.out.cell rfl
            go_wp2_with fail
            clear hS1
            obtain ⟨⟨what, s, er, q2⟩, hr⟩ : ∃ r, q.step wk = r := ⟨_, rfl⟩
            have HR := Lib.hid hr
            have HQ2 : Hid (q2.next ≤ j + 1) := by have := HQ.out; have h2 := q.step_next wk; rw [hr] at h2; dsimp only at h2; show _ ≤ _; omega
            clear hr hk1
            refine Calls.mono (step_at lo _ b rb hb q wk _ HR.out w1 HO1.out.I) ?_
            rintro e w3 ⟨cs3, rfl, ⟨vt3, rfl, ht3⟩, hi3, hw3⟩
            obtain ⟨a3, c3, rfl⟩ := ht3.isSlice
            have HT3 := Lib.hid ht3
            have HO3 := Lib.hid (HO1.out.impl hw3 (by rintro k (rfl | rfl); exact .inl rfl; exact .inr (.inr rfl)) hi3)
            clear hi3 hw3 ht3 HO1 HA1
            unfold spanCells
            go_upto_region 17 with fail
            refine wp_gen fun w4 hw4 => ?_
            have HB4 : Hid (Below w3.heap.size w3 w4) := by rw [hw4]; exact (Below.refl _ _).alloc (Nat.le_refl _) _
            have HS4 : Hid (Blk w4 w3.heap.size (spanCells s (.slice a3 s.tags.length c3)).toArray 35) := by rw [hw4]; exact Blk.at_new rfl rfl
            clear hw4
            have HT4 := Lib.hid (HT3.out.below HB4.out)
            have HO4 := Lib.hid (HO3.out.below HB4.out)
            clear HT3 HO3 HB4
            generalize w3.heap.size = z3 at *
            by_cases hw2 : what = 2
            · subst hw2
              have HP4 := Lib.hid (HP.out.step_span HR.out)
              have HL4 : Hid (lq.length ≤ 3000) := by have h1 := HP.out.left; have h2 := HL.out; show _ ≤ _; omega
              go_wp2_with (with_reducible refine pause_load ?_)
              refine Pause.go (wpList_load_agg rfl 35 _ rfl ⟨z3, 0, none⟩ rfl (spanCells s (.slice a3 s.tags.length c3)) _ (fun j v hj => by rw [add_plain']; exact HS4.out.cell (by simpa using hj)) Try.underlying35 rfl (by kernel_rfl) ?_)
              unfold spanCells
              go_wp2_with (with_reducible refine pause_append ?_)
              refine list_gen fun w5 hw5 => ?_
              have HB5 : Hid (Below w4.heap.size w4 w5) := by rw [hw5]; exact (Below.refl _ _).alloc (Nat.le_refl _) _
              have HS5 : Hid (Blk w5 w4.heap.size (spanCells s (.slice a3 s.tags.length c3)).toArray 35) := by rw [hw5]; exact Blk.at_new rfl rfl
              clear hw5
              have HO5 := Lib.hid (HO4.out.below HB5.out)
              have HT5 := Lib.hid (HO5.out.el (HT4.out.below HB5.out))
              refine Pause.go (wpList_append_elF (K := spanK) 37 35 _ 120 Try.underlying37 info_span rfl (fo lo b rb hb _) lo _ lq w4.heap.size 35 _ s rfl _ _ rfl rfl rfl HO5.out.vout HS5.out ⟨_, rfl, HT5.out⟩ (by have := HL4.out; omega) (by decide) HO5.out.base.2 ?_)
              intro v6 w6 ho6 hg6
              have HO6 := Lib.hid (HO5.out.addOut ho6 hg6)
              clear ho6 hg6 HO5 HT5 HS5 HB5 HO4 HT4 HS4
              go_wp2_with fail
              go_roundw
              · exact ⟨j + 1, q2, li, lq ++ [s], by go_num, by omega, HQ2, (by have := HL.out; show _ ≤ _; omega), HP4, HO6⟩
              · simp only [intOf]; omega
            · have hw2' : ((what : Int) == 2) = false := beq_eq_false_iff_ne.2 (by omega)
              have HP4 := Lib.hid (HP.out.step_other HR.out hw2)
              go_wp2_with fail
              go_roundw
              · exact ⟨j + 1, q2, li, lq, by go_num, by omega, HQ2, (by have := HL.out; show _ ≤ _; omega), HP4, HO4⟩
              · simp only [intOf]; omega
        · have hjl : ¬ (j : Int) < (acts.length : Int) := by omega
          have HL2 : Hid (li.length ≤ 3000) := by have := HL.out; show _ ≤ _; omega
          clear HL HQ hlt hj
          generalize wr = w0 at *
          generalize u9 = vi at *
          go_wp2_with fail
          go_loopw [10, 16] (fun vo x wr => ∃ (j : Nat) (q : Iq) (lq : List Sp.T), x = .int .i64 (j : Int) ∧ j ≤ 3200 ∧ Hid (j + (q.left + 2 * q.queue.length) ≤ 3200) ∧ Hid (Inv q li lq) ∧ Hid (Onc W.heap.size lo b rb hb W wr q vi vo li lq)) (fun _ x _ => 3300 - (intOf x).toNat)
          case atStart =>
            refine ⟨0, q, lq, rfl, by omega, ?_, HP, HO⟩
            have h1 := HP.out.left
            have h2 := HO.out.I.fit
            have h3 := HO.out.I.n1
            have h4 := HL2.out
            show _ ≤ _
            omega
          case round =>
            clear HP HO
            obtain ⟨j, q, lq, rfl, hj, HM, HP, HO⟩ := hrel
            go_wp2_with fail
            refine Calls.mono (left_any _ _ b rb hb q _ HO.out.I) ?_
            rintro e w1 ⟨rfl, n1, hx1⟩
            have HO1 : Hid (Onc W.heap.size lo b rb hb W w1 q vi u10 li lq) := by rw [hx1]; exact HO.out.dn _
            clear hx1 HO
            by_cases h0 : 0 < q.left
            · have h0' : (0 : Int) < (q.left : Int) := by omega
              obtain ⟨L0, hL0⟩ : ∃ x, x = q.left := ⟨_, rfl⟩
              obtain ⟨Q0, hQ0⟩ : ∃ x, x = q.queue.length := ⟨_, rfl⟩
              have hLQ : L0 ≤ 3200 ∧ Q0 ≤ 3200 := by have := HM.out; omega
              obtain ⟨hL0b, hQ0b⟩ := hLQ
              rw [← hL0] at h0'
              rw [← hL0]
              have HL0 := Lib.hid hL0
              have HQ0 := Lib.hid hQ0
              clear hL0 hQ0
              go_wp2_with fail
              refine Calls.mono (runnable_any _ _ b rb hb q _ HO1.out.I) ?_
              rintro e w2 ⟨v2, rfl, ho2, hb2⟩
              have hrn : 0 < q.runnable.length := HP.out.runnable h0
              have HO2 := Lib.hid (HO1.out.below hb2)
              have HRr := Lib.hid ho2.rows
              obtain ⟨r2, off2, cap2, er2, hr2⟩ := ints_at ho2.rows hrn
              have HR2 := Lib.hid hr2
              subst er2
              clear ho2 hb2 HO1 hr2
              go_wp2_with fail
              refine Calls.mono (left_any _ _ b rb hb q _ HO2.out.I) ?_
              rintro e w3 ⟨rfl, n3, hx3⟩
              rw [← HL0.out]
              have HO3 : Hid (Onc W.heap.size lo b rb hb W w3 q vi u10 li lq) := by rw [hx3]; exact HO2.out.dn _
              have HB3 : Hid (Below w2.heap.size w2 w3) := by rw [hx3]; exact below_dn (Below.refl _ _) _
              clear hx3
              go_wp2_with fail
              refine Calls.mono (waiting_any _ _ b rb hb q _ HO3.out.I) ?_
              rintro e w4 ⟨rfl, n4, hx4⟩
              rw [← HQ0.out]
              have HO4 : Hid (Onc W.heap.size lo b rb hb W w4 q vi u10 li lq) := by rw [hx4]; exact HO3.out.dn _
              have HB4 : Hid (Below w2.heap.size w2 w4) := by rw [hx4]; exact below_dn HB3.out _
              clear hx4 HO3 HB3
              have hr0 : ((q.runnable.length : Int) == 0) = false := beq_eq_false_iff_ne.2 (by omega)
              have hj24 : ¬ (24000 : Int) < (j : Int) := by omega
              have hr8 : q.runnable.length ≤ 8 := by
                have h1 := List.length_filter_le q.runs (List.range q.m)
                have h2 := HO4.out.I.m2
                rw [List.length_range] at h1
                exact Nat.le_trans h1 h2
              go_upto_if 97 with fail
              go_cut [19] from 74 to 136 (fun cx wx => ∃ x : Int, cx = .int .i64 x ∧ -9223372036854775808 ≤ x ∧ x ≤ 9223372036854775807 ∧ Hid (Onc W.heap.size lo b rb hb W wx q vi u10 li lq) ∧ Hid (Below w2.heap.size w2 wx))
              case first =>
                by_cases hlt : j < ns.length
                · obtain ⟨nb, noff, ncap, en, hnb, hnc⟩ := izs_at HNS.out (by omega)
                  injection en with e1 e2 e3
                  subst e1 e3
                  clear e2
                  obtain ⟨k0, kr1, kr2⟩ := hnc j hlt
                  replace k0 := (World.cell?_of_block (HO4.out.W.block nb hnb)).trans k0
                  have hjl : (j : Int) < (ns.length : Int) := by omega
                  clear hnc
                  generalize ns[j] = nj at *
                  go_wp2_with fail
                  go_meet
                  exact ⟨nj, rfl, kr1, kr2, HO4, HB4⟩
                · have hjl : ¬ (j : Int) < (ns.length : Int) := by omega
                  go_wp2_with fail
                  go_meet
                  exact ⟨0, rfl, by omega, by omega, HO4, HB4⟩
              case rest =>
                obtain ⟨x, rfl, hx0, hx1, HOc, HBc⟩ := hcut
                clear HO4 HB4 hr0 hj24
                go_wp2_with fail
                refine Calls.mono (pick_any x q.runnable.length _ hx0 hx1 hrn (by omega)) ?_
                rintro e w5 ⟨k, hk, rfl, rfl⟩
                have kr := HR2.out k hk
                have kb := World.block_lt_of_cell? w2 _ kr
                replace kr := (World.cell?_of_block (HBc.out.block r2 kb)).trans kr
                have hk' : (k : Int) < (q.runnable.length : Int) := by omega
                have hmem : q.runnable[k] ∈ q.runnable := List.getElem_mem hk
                generalize q.runnable[k] = wk at *
                have HMem := Lib.hid hmem
                clear hmem hx0 hx1
                go_wp2_with fail
                clear kr kb hk'
                obtain ⟨⟨what, s, er, q2⟩, hr⟩ : ∃ r, q.step (wk : Int) = r := ⟨_, rfl⟩
                have HR := Lib.hid hr
                clear hr
                refine Calls.mono (step_at lo _ b rb hb q wk _ HR.out wc HOc.out.I) ?_
                rintro e w6 ⟨cs3, rfl, ⟨vt3, rfl, ht3⟩, hi3, hw3⟩
                obtain ⟨a3, c3, rfl⟩ := ht3.isSlice
                have HT6 := Lib.hid ht3
                have HO6 := Lib.hid (HOc.out.impl hw3 (by rintro k (rfl | rfl); exact .inl rfl; exact .inr (.inr rfl)) hi3)
                clear hi3 hw3 ht3 HOc HBc
                obtain ⟨he, hwh, hdec⟩ := HP.out.step_runs HMem.out HR.out
                unfold spanCells
                dsimp only
                subst he
                go_upto_region 30 with fail
                refine wp_gen fun w7 hw7 => ?_
                have HB7 : Hid (Below w6.heap.size w6 w7) := by rw [hw7]; exact (Below.refl _ _).alloc (Nat.le_refl _) _
                have HS7 : Hid (Blk w7 w6.heap.size (spanCells s (.slice a3 s.tags.length c3)).toArray 35) := by rw [hw7]; exact Blk.at_new rfl rfl
                clear hw7
                have HT7 := Lib.hid (HT6.out.below HB7.out)
                have HO7 := Lib.hid (HO6.out.below HB7.out)
                clear HT6 HO6 HB7
                generalize w6.heap.size = z3 at *
                rw [← HL0.out, ← HQ0.out] at hdec
                obtain ⟨L1, hL1⟩ : ∃ x, x = q2.left := ⟨_, rfl⟩
                obtain ⟨Q1, hQ1⟩ : ∃ x, x = q2.queue.length := ⟨_, rfl⟩
                rw [← hL1, ← hQ1] at hdec
                have HL1 := Lib.hid hL1
                have HQ1 := Lib.hid hQ1
                clear hL1 hQ1
                have HMn : Hid (j + 1 + (q2.left + 2 * q2.queue.length) ≤ 3200) := by
                  have h1 := HM.out
                  have h2 := HL0.out
                  have h3 := HQ0.out
                  have h4 := HL1.out
                  have h5 := HQ1.out
                  show _ ≤ _
                  omega
                have hj2 : j + 1 ≤ 3200 := by have := HMn.out; omega
                have hb1 : L1 ≤ 3200 ∧ Q1 ≤ 3200 := by
                  have h1 := HMn.out
                  have h4 := HL1.out
                  have h5 := HQ1.out
                  omega
                obtain ⟨hb1, hb2⟩ := hb1
                have HLq : Hid (lq.length ≤ 3000) := by have h1 := HP.out.left; have h2 := HL2.out; show _ ≤ _; omega
                have hge : ¬ ((L0 : Int) + 2 * (Q0 : Int) ≤ (L1 : Int) + 2 * (Q1 : Int)) := by omega
                clear HMem HM HR2 HRr hrn hr8 h0 h0' hk
                by_cases hw2 : what = 2
                · subst hw2
                  clear hwh hdec
                  have HPn := Lib.hid (HP.out.step_span HR.out)
                  go_wp2_with fail
                  refine Calls.mono (left_any _ _ b rb hb q2 _ HO7.out.I) ?_
                  rintro e w8 ⟨rfl, n8, hx8⟩
                  rw [← HL1.out]
                  have HO8 : Hid (Onc W.heap.size lo b rb hb W w8 q2 vi u10 li lq) := by rw [hx8]; exact HO7.out.dn _
                  have HB8 : Hid (Below w7.heap.size w7 w8) := by rw [hx8]; exact below_dn (Below.refl _ _) _
                  clear hx8
                  go_wp2_with fail
                  refine Calls.mono (waiting_any _ _ b rb hb q2 _ HO8.out.I) ?_
                  rintro e w9 ⟨rfl, n9, hx9⟩
                  rw [← HQ1.out]
                  have HO9 : Hid (Onc W.heap.size lo b rb hb W w9 q2 vi u10 li lq) := by rw [hx9]; exact HO8.out.dn _
                  have HB9 : Hid (Below w7.heap.size w7 w9) := by rw [hx9]; exact below_dn HB8.out _
                  have HT9 := Lib.hid (HT7.out.below HB9.out)
                  have HS9 := Lib.hid (HS7.out.below HB9.out HS7.out.lt)
                  clear hx9 HO8 HB8 HO7 HT7 HS7
                  go_wp2_with (with_reducible refine pause_load ?_)
                  refine Pause.go (wpList_load_agg rfl 35 _ rfl ⟨z3, 0, none⟩ rfl (spanCells s (.slice a3 s.tags.length c3)) _ (fun j v hj => by rw [add_plain']; exact HS9.out.cell (by simpa using hj)) Try.underlying35 rfl (by kernel_rfl) ?_)
                  unfold spanCells
                  go_wp2_with (with_reducible refine pause_append ?_)
                  refine list_gen fun wa hwa => ?_
                  have HBa : Hid (Below w9.heap.size w9 wa) := by rw [hwa]; exact (Below.refl _ _).alloc (Nat.le_refl _) _
                  have HSa : Hid (Blk wa w9.heap.size (spanCells s (.slice a3 s.tags.length c3)).toArray 35) := by rw [hwa]; exact Blk.at_new rfl rfl
                  clear hwa
                  have HOa := Lib.hid (HO9.out.below HBa.out)
                  have HTa := Lib.hid (HOa.out.el (HT9.out.below HBa.out))
                  refine Pause.go (wpList_append_elF (K := spanK) 37 35 _ 120 Try.underlying37 info_span rfl (fo lo b rb hb _) lo _ lq w9.heap.size 35 _ s rfl _ _ rfl rfl rfl HOa.out.vout HSa.out ⟨_, rfl, HTa.out⟩ (by have := HLq.out; omega) (by decide) HOa.out.base.2 ?_)
                  intro vb wb hob hgb
                  have HOb := Lib.hid (HOa.out.addOut hob hgb)
                  clear hob hgb HOa HTa HSa HBa HO9 HT9 HS9
                  go_wp2_with fail
                  go_roundw
                  · exact ⟨j + 1, q2, lq ++ [s], by go_num, hj2, HMn, HPn, HOb⟩
                  · simp only [intOf]; omega
                · have hw1 : what = 1 := by omega
                  subst hw1
                  clear hwh hdec
                  have HPn := Lib.hid (HP.out.step_other HR.out hw2)
                  clear hw2
                  go_wp2_with fail
                  refine Calls.mono (left_any _ _ b rb hb q2 _ HO7.out.I) ?_
                  rintro e w8 ⟨rfl, n8, hx8⟩
                  rw [← HL1.out]
                  have HO8 : Hid (Onc W.heap.size lo b rb hb W w8 q2 vi u10 li lq) := by rw [hx8]; exact HO7.out.dn _
                  clear hx8
                  go_wp2_with fail
                  refine Calls.mono (waiting_any _ _ b rb hb q2 _ HO8.out.I) ?_
                  rintro e w9 ⟨rfl, n9, hx9⟩
                  rw [← HQ1.out]
                  have HO9 : Hid (Onc W.heap.size lo b rb hb W w9 q2 vi u10 li lq) := by rw [hx9]; exact HO8.out.dn _
                  clear hx9 HO8 HO7 HT7 HS7
                  go_wp2_with fail
                  go_roundw
                  · exact ⟨j + 1, q2, lq, by go_num, hj2, HMn, HPn, HO9⟩
                  · simp only [intOf]; omega
            · have h0' : ¬ (0 : Int) < (q.left : Int) := by omega
              have hz : q.left = 0 := by omega
              obtain ⟨hperm, hrun⟩ := HP.out.done hz
              have HPm := Lib.hid hperm
              have hdz : decide (q.left = 0) = true := decide_eq_true hz
              have HDZ := Lib.hid hdz
              have HRun := Lib.hid hrun
              have HLo : Hid (lq.length ≤ 3000) := by have h1 := HP.out.left; have h2 := HL2.out; show _ ≤ _; omega
              clear hperm hrun hdz hz
              go_wp2_with fail
              refine Calls.mono (idle_any _ _ b rb hb q _ HO1.out.I) ?_
              rw [HDZ.out]
              rintro e w2 ⟨rfl, n2, hx2⟩
              have HO2 : Hid (Onc W.heap.size lo b rb hb W w2 q vi u10 li lq) := by rw [hx2]; exact HO1.out.dn _
              clear hx2 HO1 h0' h0
              go_wp2_with fail
              refine Calls.mono (runnable_any _ _ b rb hb q _ HO2.out.I) ?_
              rw [HRun.out]
              rintro e w3 ⟨v3, rfl, ho3, hb3⟩
              obtain ⟨ra3, rc3, rfl⟩ := ho3.isSlice
              have HO3 := Lib.hid (HO2.out.below hb3)
              clear ho3 hb3 HO2
              go_wp2_with fail
              refine Calls.mono (order_any _ vi li _ HO3.out.vin.rows (by have := HL2.out; omega) (fun s hs => by have := HP.out.few s hs; omega)) ?_
              rintro e w4 ⟨v4, m4, rfl, hr4, hp4, hs4, hb4⟩
              have HO4 := Lib.hid (HO3.out.below hb4)
              have HR4 := Lib.hid hr4
              have HQ4 : Hid (m4.Perm li ∧ Sorted m4) := ⟨hp4, hs4⟩
              clear hr4 hp4 hs4 hb4 HO3
              go_wp2_with fail
              refine Calls.mono (order_any _ u10 lq _ HO4.out.vout.rows (by have := HLo.out; omega) (fun s hs => by have := HP.out.few_out s hs; omega)) ?_
              rintro e w5 ⟨v5, m5, rfl, hr5, hp5, hs5, hb5⟩
              have HW5 : Hid (Below W.heap.size W w5) := HO4.out.W.trans (hb5.mono HO4.out.base.1)
              have HR5 := Lib.hid hr5
              have hmm : m4 = m5 := sorted_same (HQ4.out.1.trans (HPm.out.trans hp5.symm)) HQ4.out.2 hs5
              subst hmm
              have HR4' := Lib.hid (HR4.out.below hb5)
              clear hr5 hp5 hs5 hb5 HO4 HR4 HQ4
              go_wp2_with fail
              refine Calls.mono (sameSpans_same _ _ v4 v5 m4 _ HR4'.out HR5.out) ?_
              rintro e w6 ⟨rfl, hb6⟩
              have HW6 : Hid (Below W.heap.size W w6) := HW5.out.trans (hb6.mono HW5.out.size)
              clear hb6
              go_wp2_with fail
              go_ret
              exact ⟨rfl, HW6.out⟩

theorem ingestOnce_all (W : World) (n m : Int) (v : Value) (acts : List Act) (hv : Rw actK (· < W.heap.size) W v acts) (vc : Value) (ns : List Int) (hc : Rw izK (· < W.heap.size) W vc ns) :
    Calls Try.prog 4 #[.agg #[.int .i64 n, .int .i64 m], v, vc] W fun e w' => e = .returned (.bool true) ∧ Below W.heap.size W w' :=
  ingestOnce_any W n m v vc acts ns hv hc
end Go.Proofs.Ytiofhmlmimbngaa
