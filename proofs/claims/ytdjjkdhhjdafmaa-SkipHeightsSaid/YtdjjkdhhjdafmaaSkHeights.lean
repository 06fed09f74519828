/- The law SkipHeights: its walk. -/
import Derived.Test.YtdjjkdhhjdafmaaHeM
import Derived.Test.YtdjjkdhhjdafmaaKitE
import Derived.Test.YtdjjkdhhjdafmaaSkAll
import Derived.Test.YtdjjkdhhjdafmaaSkLives
import Derived.Test.YtdjjkdhhjdafmaaOpenW
namespace Go.Proofs.Ytdjjkdhhjdafmaa
open Go.RowKit

theorem Rw.low {α : Type} {K : Kind α} {n₀ : Nat} {w w' : World} {v : Value} {xs : List α} (h : Rw K (· < n₀) w v xs) (hb : Below n₀ w w') : Rw K (· < n₀) w' v xs := h.keep fun k _ hF => hb.block k hF

set_option maxRecDepth 100000 in
set_option maxHeartbeats 8000000 in
theorem skipHeights_any (w : World) (vl va vb : Value) (l : List Ent) (aas bbs : List Int) (hl : Rw entK (· < w.heap.size) w vl l) (hq : ∀ e ∈ l, Ent.near e) (ha : Rw izK (· < w.heap.size) w va aas) (hb : Rw izK (· < w.heap.size) w vb bbs) :
    Calls Try.prog 3 #[vl, va, vb] w fun x w' => x = .returned (.bool true) ∧ Below w.heap.size w w' := by
  obtain ⟨la, lc, rfl⟩ := hl.isSlice
  obtain ⟨aa, ac, rfl⟩ := ha.isSlice
  obtain ⟨ba, bc, rfl⟩ := hb.isSlice
  have HL := Lib.hid hl
  have HA := Lib.hid ha
  have HB := Lib.hid hb
  have HQ : Hid (∀ e ∈ l, e.key.length ≤ 140737488355328 ∧ e.value.length ≤ 140737488355328) := fun e he => by
    have := hq e he
    simp only [Ent.near, reachBytes] at this
    omega
  have hll := hl.len
  have hal := ha.len
  have hbl := hb.len
  simp only [maxLen] at hll hal hbl
  clear hl ha hb hq
  go_enter Try.func3, Try.ntmps3
  go_wp2_with fail
  refine Calls.mono (skLives_any w) ?_
  rintro _ w1 ⟨rfl, hb1⟩
  have HW1 := Lib.hid hb1
  clear hb1
  by_cases hlen : l.length ≤ 120
  · have hlen' : ¬ (120 : Int) < (l.length : Int) := by omega
    go_wp2_with fail
    refine Calls.mono (kweigh_any _ (.slice la l.length lc) l w1 (HL.out.below HW1.out) (by omega) HQ.out) ?_
    rintro _ w2 ⟨rfl, hn2⟩
    have HW2 : Hid (Below w.heap.size w w2) := HW1.out.trans ((below_drewN hn2).mono HW1.out.size)
    clear hn2 HW1
    by_cases hwe : weighE l ≤ 20000
    · have hwe' : ¬ (20000 : Int) < (weighE l : Int) := by omega
      have HWE := Lib.hid hwe
      clear hwe
      go_wp2_with fail
      clear hwe'
      refine Calls.mono (skNew_e w2) ?_
      rintro _ w3 ⟨b, hd, rfl, hs3, hb3, he3⟩
      have HS3 := Lib.hid hs3
      have HB3 := Lib.hid hb3
      have HE3 := Lib.hid he3
      clear hs3 hb3 he3
      go_wp2_with fail
      refine Calls.mono (skNew_e w3) ?_
      rintro _ w4 ⟨b', hd', rfl, hs4, hb4, he4⟩
      have HS4 := Lib.hid hs4
      have HB4 := Lib.hid hb4
      have HE4 := Lib.hid he4
      clear hs4 hb4 he4
      have HW4 : Hid (Below w.heap.size w w4) := (HW2.out.trans (HB3.out.mono HW2.out.size)).trans (HB4.out.mono (Nat.le_trans HW2.out.size HB3.out.size))
      have HS4a : Hid (Skp ⟨w2.heap.size, fun k => w4.heap.size ≤ k⟩ w4 b hd []) := ((HS3.out (fun k => w3.heap.size ≤ k) fun _ h => h).below HB4.out).empty HE3.out fun _ h => h
      have HT4 : Hid (Skp ⟨w3.heap.size, fun k => w4.heap.size ≤ k⟩ w4 b' hd' []) := HS4.out _ fun _ h => h
      have HBL : Hid (b < w3.heap.size ∧ hd.b < w3.heap.size ∧ w3.heap.size ≤ b' ∧ w3.heap.size ≤ hd'.b ∧ b' < w4.heap.size ∧ hd'.b < w4.heap.size ∧ w.heap.size ≤ b ∧ w.heap.size ≤ hd.b ∧ w.heap.size ≤ w3.heap.size) := by
        have h1 := HS3.out (fun k => w3.heap.size ≤ k) fun _ h => h
        have h2 := HW2.out.size
        have h3 := HB3.out.size
        have h4 := h1.l1
        have h5 := h1.l2 hd (List.mem_cons_self ..)
        have h6 := HT4.out.l1
        have h7 := HT4.out.l2 hd' (List.mem_cons_self ..)
        have h8 := h1.ch.lt hd (List.mem_cons_self ..)
        have h9 := HT4.out.ch.lt hd' (List.mem_cons_self ..)
        exact ⟨h1.blk.lt, h8, h6, h7, HT4.out.blk.lt, h9, Nat.le_trans h2 h4, Nat.le_trans h2 h5, Nat.le_trans h2 h3⟩
      have HL1 : Hid (L1 w.heap.size w4 w2.heap.size b hd [] (fun k => w4.heap.size ≤ k) (.slice none 0 0) [] w4) :=
        ⟨Wrote.of_below (Below.refl _ _), HS4a.out, fun _ h => h, (fun k _ _ h => by simp [Value.ownBlock] at h), (fun _ h => by cases h), (by have := HBL.out; have := HB4.out.size; omega), ROwnF.nil _ _ _ _ _⟩
      clear HS3 HB3 HS4 HB4 HS4a
      go_wp2_with fail
      go_loopw [9, 10] (fun tk iv wr => ∃ (j : Nat) (ts : List Tw) (p : Nat → Prop) (took : List Ent), iv = .int .i64 (j : Int) ∧ j ≤ l.length ∧ Hid (L1 w.heap.size w4 w2.heap.size b hd ts p tk took wr) ∧ Hid (Held ts took) ∧ ts.length ≤ j) (fun _ iv _ => l.length - (intOf iv).toNat)
      case atStart => exact ⟨0, [], _, [], rfl, by omega, HL1, Held.nil, by simp⟩
      case round =>
        clear HL1
        obtain ⟨j, ts, p, took, rfl, hj, HL1, HHD, htl⟩ := hrel
        have HWr : Hid (Below w.heap.size w wr) := HL1.out.low HW4.out
        by_cases hlt : j < l.length
        · have hjl : (j : Int) < (l.length : Int) := by omega
          obtain ⟨vb0, vo, vc, e1, hvb, _, hcs⟩ := ents_at HL.out (by omega)
          injection e1 with e1 _ e3
          subst e1 e3
          obtain ⟨ke, ve, hke, hve, hc0, hc1, hc2, hc3⟩ := hcs j hlt
          obtain ⟨kea, kec, rfl⟩ := hke.isSlice
          obtain ⟨vea, vec, rfl⟩ := hve.isSlice
          have HKE := Lib.hid hke
          have HVE := Lib.hid hve
          have HC : Hid (C4o vb0 (vo + j * 4) l[j] (.slice kea l[j].key.length kec) (.slice vea l[j].value.length vec) w) := ⟨hc0, hc1, hc2, hc3⟩
          have HVB : Hid (vb0 < w.heap.size) := hvb
          clear hcs hke hve hc0 hc1 hc2 hc3 hvb
          generalize l[j] = e at *
          obtain ⟨c0, c1, c2, c3⟩ := HC.out.keep HWr.out HVB.out
          by_cases hja : j < aas.length
          have hja' : (j : Int) < (aas.length : Int) := by omega
          obtain ⟨ab0, ao, ac', e1, _, hca⟩ := izs_at (HA.out.low HWr.out) (by omega)
          injection e1 with e1 _ e3
          subst e1 e3
          obtain ⟨ca, hb1, hb2⟩ := hca j hja
          clear hca
          generalize hx : aas[j] = x at *
          go_wp2_with fail
          refine Calls.mono (pick_any x 12 wr hb1 hb2 (by decide) (by decide)) ?_
          rintro _ _ ⟨k, hk, rfl, rfl⟩
          have hw1 : IntKind.i64.wrap (1 + (k : Int)) = 1 + (k : Int) := wrap_small (by omega) (by omega)
          go_wp2_with fail
          clear ca hb1 hb2 hx hw1 hk
          rotate_left
          have hja' : ¬ (j : Int) < (aas.length : Int) := by omega
          go_wp2_with fail
          all_goals
            clear c0 c1 c2 c3
            refine Calls.mono (insert_any _ b hd ts _ _ e (.slice kea e.key.length kec) (.slice vea e.value.length vec) _ _ HL1.out.s (HKE.out.keep fun k _ hk => HWr.out.block k hk) (HVE.out.keep fun k _ hk => HWr.out.block k hk) (by omega)) ?_
            rintro _ w6 ⟨c, ts', rfl, hs6, hw6, hi6, hn6⟩
            have hcs := hi6.small
            have HM := Lib.hid (HL1.out.ins hw6 hs6 hn6)
            have HI6 := Lib.hid hi6
            clear hs6 hw6 hn6 hi6
            have HW6 : Hid (Below w.heap.size w w6) := HM.out.low HW4.out
            obtain ⟨c0, c1, c2, c3⟩ := HC.out.keep HW6.out HVB.out
            by_cases hcz : c = 0
            · subst hcz
              have HHD2 := Lib.hid (HHD.out.ins HI6.out)
              have htk : took.length < 1000000 := by
                have := HHD.out.1.length_eq
                unfold ents at this
                rw [List.length_map] at this
                omega
              have hln := HI6.out.len
              go_wp2_with (with_reducible refine pause_append ?_)
              refine list_gen fun w7 hw7 => ?_
              have HB7 : Hid (Below w6.heap.size w6 w7) := by rw [hw7]; exact (Below.refl _ _).alloc (Nat.le_refl _) _
              have HS7 : Hid (Blk w7 w6.heap.size (entCells e (.slice kea e.key.length kec) (.slice vea e.value.length vec)).toArray 34) := by rw [hw7]; exact Blk.at_new rfl rfl
              clear hw7 c0 c1 c2 c3
              have HM7 := Lib.hid (HM.out.below HB7.out)
              have HW7 : Hid (Below w.heap.size w w7) := HM7.out.low HW4.out
              have hno : ∀ k, k < w.heap.size → u9.ownBlock ≠ some k := fun k hk e0 => by
                have h1 := (HM7.out.row.lt k e0).1
                have h2 := HM7.out.bl
                omega
              have HNO := Lib.hid hno
              clear hno
              refine Pause.go (wpList_append_elF (K := entK) 22 34 _ 64 Try.underlying22 info_entry rfl (· < w.heap.size) w4.heap.size u9 took w6.heap.size 34 _ e rfl _ _ rfl rfl rfl HM7.out.row HS7.out
                ⟨_, _, rfl, (HKE.out.keep fun k _ hk => HW7.out.block k hk).mono fun k _ hk => ⟨hk, HNO.out k hk⟩, (HVE.out.keep fun k _ hk => HW7.out.block k hk).mono fun k _ hk => ⟨hk, HNO.out k hk⟩⟩ htk (by decide) HM7.out.o.size ?_)
              intro v8 w8 ho hg
              have HM8 := Lib.hid (HM7.out.app ho hg)
              clear ho hg HM7 HS7 HB7 HM HNO htk
              go_wp2_with fail
              go_roundw
              · exact ⟨j + 1, ts', _, took ++ [e], by go_num, by omega, HM8, HHD2, by omega⟩
              · simp only [intOf]; omega
            · obtain rfl := HI6.out.code hcz
              have hcz' : ((c : Int) == 0) = false := beq_eq_false_iff_ne.2 (by omega)
              go_wp2_with fail
              go_roundw
              · exact ⟨j + 1, ts', p, took, by go_num, by omega, HM, HHD, by omega⟩
              · simp only [intOf]; omega
        · have hjl : ¬ (j : Int) < (l.length : Int) := by omega
          obtain ⟨ta, tc, rfl⟩ := HL1.out.row.isSlice
          have htl2 : took.length ≤ 120 := by
            have := HHD.out.1.length_eq
            unfold ents at this
            rw [List.length_map] at this
            omega
          have HAP : Hid (Apart took) := HHD.out.apart HL1.out.s.up
          have HL2 : Hid (L2 wr w3.heap.size b' hd' [] wr) := ⟨Wrote.of_below (Below.refl _ _), HL1.out.other HT4.out HE4.out (by have := HBL.out; omega) (fun _ h => h), fun _ h => by cases h⟩
          have HBW : Hid (w.heap.size ≤ b' ∧ w.heap.size ≤ hd'.b ∧ w.heap.size ≤ wr.heap.size) := by
            have h1 := HBL.out
            have h2 := HL1.out.bl
            have h3 := HL1.out.o.size
            show _ ∧ _ ∧ _
            omega
          have hw0 : IntKind.i64.wrap ((took.length : Int) - 1) = (took.length : Int) - 1 := wrap_small (by omega) (by omega)
          clear hjl HL HA HQ HWE htl hj
          go_wp2_with fail
          clear hw0
          generalize hW5 : wr = w5 at *
          clear hW5
          go_loopw [12] (fun iv wr => ∃ (n : Nat) (x : Int) (tt : List Tw), iv = .int .i64 x ∧ Hid (x = (n : Int) - 1) ∧ n ≤ took.length ∧ Hid (L2 w5 w3.heap.size b' hd' tt wr) ∧ Hid (Held tt (took.drop n)) ∧ Hid (tt.length + n ≤ took.length)) (fun iv _ => (intOf iv + 1).toNat)
          case atStart => exact ⟨took.length, _, [], rfl, rfl, Nat.le_refl _, HL2, by rw [List.drop_length]; exact Held.nil, by show _ ≤ _; simp⟩
          case round =>
            clear HL2
            obtain ⟨n, x, tt, rfl, HX, hn, HL2, HHT, HTT⟩ := hrel
            have HWr2 : Hid (Below w.heap.size w wr) := HL2.out.low HWr.out HBW.out
            cases n with
            | succ m =>
              obtain rfl : x = (m : Int) := by have := HX.out; omega
              have hm0 : (0 : Int) ≤ (m : Int) := by omega
              have HRW := Lib.hid (HL2.out.rows HL1.out.row (by have := HBL.out; omega))
              obtain ⟨vb0, vo, vc, e1, _, hvb, hcs⟩ := ents_at HRW.out.rows (by omega)
              injection e1 with e1 _ e3
              subst e1 e3
              obtain ⟨ke, ve, hke, hve, c0, c1, c2, c3⟩ := hcs m (by omega)
              obtain ⟨kea, kec, rfl⟩ := hke.isSlice
              obtain ⟨vea, vec, rfl⟩ := hve.isSlice
              have HKE := Lib.hid hke
              have HVE := Lib.hid hve
              have HBK : Hid (∀ {h : Int} {c : Nat} {tt' : List Tw}, 1 ≤ h → h ≤ 12 → InsSays took[m] h tt c tt' → c = 0 ∧ Held tt' (took.drop m)) := fun h1 h2 hs => HHT.out.back (by omega) HAP.out (HHD.out.2 _ (List.getElem_mem _)) h1 h2 hs
              clear hcs hke hve hvb
              generalize took[m] = e at *
              by_cases hja : m < bbs.length
              have hja' : (m : Int) < (bbs.length : Int) := by omega
              obtain ⟨ab0, ao, ac', e1, _, hca⟩ := izs_at (HB.out.low HWr2.out) (by omega)
              injection e1 with e1 _ e3
              subst e1 e3
              obtain ⟨ca, hb1, hb2⟩ := hca m hja
              clear hca
              generalize hx : bbs[m] = x at *
              go_wp2_with fail
              refine Calls.mono (pick_any x 12 wr hb1 hb2 (by decide) (by decide)) ?_
              rintro _ _ ⟨k, hk, rfl, rfl⟩
              have hw1 : IntKind.i64.wrap (1 + (k : Int)) = 1 + (k : Int) := wrap_small (by omega) (by omega)
              go_wp2_with fail
              clear ca hb1 hb2 hx hw1
              have hk1 : (1 : Int) ≤ 1 + (k : Int) ∧ 1 + (k : Int) ≤ 12 := by omega
              have HK1 := Lib.hid hk1
              clear hk1 hk
              rotate_left
              have hja' : ¬ (m : Int) < (bbs.length : Int) := by omega
              have HK1 : Hid ((1 : Int) ≤ 1 ∧ (1 : Int) ≤ 12) := ⟨by omega, by omega⟩
              go_wp2_with fail
              all_goals
                clear c0 c1 c2 c3
                refine Calls.mono (insert_any _ b' hd' tt _ _ e (.slice kea e.key.length kec) (.slice vea e.value.length vec) _ _ HL2.out.s HKE.out HVE.out (by have := HTT.out; omega)) ?_
                rintro _ w6 ⟨c, tt', rfl, hs6, hw6, hi6, hn6⟩
                obtain ⟨rfl, hh6⟩ := HBK.out HK1.out.1 HK1.out.2 hi6
                have HM := Lib.hid (HL2.out.ins hw6 hs6 hn6)
                have HH6 := Lib.hid hh6
                have HT6 : Hid (tt'.length + m ≤ took.length) := by have h1 := hi6.len; have h2 := HTT.out; show _ ≤ _; omega
                clear hs6 hw6 hn6 hi6 hh6 HK1
                have hw2 : IntKind.i64.wrap ((m : Int) - 1) = (m : Int) - 1 := wrap_small (by omega) (by omega)
                go_wp2_with fail
                go_roundw
                · exact ⟨m, (m : Int) - 1, tt', rfl, rfl, by omega, HM, HH6, HT6⟩
                · simp only [intOf]; omega
            | zero =>
              have hx : ¬ (0 : Int) ≤ x := by have := HX.out; omega
              have HHT : Hid (Held tt took) := HHT.out
              have HSs : Hid (Skp ⟨w2.heap.size, p⟩ wr b hd ts) := HL2.out.first HL1.out.s HL1.out.p3 (fun x hx => (HL1.out.tw x hx).1) (by have := HBL.out; omega) (by have := HBL.out; omega)
              have HTt : Hid (Skp ⟨w3.heap.size, fun k => w5.heap.size ≤ k⟩ wr b' hd' tt) := HL2.out.s
              have HEQ : Hid (ents ts = ents tt) := HHD.out.same HHT.out HSs.out.up HTt.out.up
              obtain ⟨xs, hxs⟩ : ∃ xs, ents ts = xs := ⟨_, rfl⟩
              have HXS := Lib.hid hxs
              have hlen2 : took.length = xs.length := by rw [← hxs]; exact HHD.out.1.length_eq.symm
              clear hxs
              go_wp2_with fail
              refine Calls.mono (skAll_any _ b hd ts wr HSs.out) ?_
              rintro _ w6 ⟨v, rfl, hr6, hb6⟩
              have HX6 : Hid (Rw entK (fun k => wr.heap.size ≤ k) w6 v xs) := by rw [← HXS.out]; exact hr6
              have HB6 := Lib.hid hb6
              clear hr6 hb6
              obtain ⟨xa, xc, rfl⟩ := HX6.out.isSlice
              go_wp2_with fail
              refine Calls.mono (skAll_any _ b' hd' tt w6 (HTt.out.below HB6.out)) ?_
              rintro _ w7 ⟨v, rfl, hr7, hb7⟩
              have HY7 : Hid (Rw entK (fun k => w6.heap.size ≤ k) w7 v xs) := by rw [← HXS.out, HEQ.out]; exact hr7
              have HB7 := Lib.hid hb7
              clear hr7 hb7
              go_wp2_with fail
              refine Calls.mono (kentries_same _ _ _ _ xs w7 (HX6.out.below HB7.out) HY7.out) ?_
              rintro _ w8 ⟨rfl, hb8⟩
              have HB8 : Hid (Below w6.heap.size w6 w8) := HB7.out.trans (hb8.mono HB7.out.size)
              have HB86 : Hid (Below wr.heap.size wr w8) := HB6.out.trans (HB8.out.mono HB6.out.size)
              clear hb8 HB7 HY7
              have HS8 := Lib.hid (HSs.out.below HB86.out)
              have HT8 := Lib.hid (HTt.out.below HB86.out)
              have HX8 := Lib.hid (HX6.out.below HB8.out)
              have HW8 : Hid (Below w.heap.size w w8) := HWr2.out.trans (HB86.out.mono HWr2.out.size)
              clear HB8 HB86 HX6 HSs HTt HB6
              go_wp2_with fail
              refine Calls.mono (skSize_any _ b hd ts w8 HS8.out) ?_
              rintro _ _ ⟨rfl, rfl⟩
              go_wp2_with fail
              refine Calls.mono (skSize_any _ b' hd' tt _ HT8.out) ?_
              rintro _ w9 ⟨rfl, rfl⟩
              rw [show sizeOf_ tt = sizeOf_ ts by rw [sizeOf_ents, sizeOf_ents, HEQ.out]]
              have hxl : xs.length ≤ 120 := by omega
              have HRI : Hid (xs.Pairwise fun a b => Ent.cmp a b < 0) := by rw [← HXS.out]; exact rising_ents HS8.out.up
              have HGE : Hid (∀ e ∈ xs, getOf e.key e.seq tt = some e) := fun e he => by
                rw [← HXS.out, HEQ.out] at he
                obtain ⟨t, ht, rfl⟩ := List.mem_map.1 he
                exact getOf_own HT8.out.up ht
              have HTL : Hid (ts.length = xs.length) := by rw [← HXS.out]; exact (List.length_map ..).symm
              clear hlen2 HL1 HL2 HHD HHT HAP HTT HX HXS HEQ HBL HBW HT4
              go_wp2_with fail
              go_loopw [15] (fun iv wr => ∃ (j : Nat), iv = .int .i64 (j : Int) ∧ j ≤ xs.length ∧ Hid (Below w9.heap.size w9 wr)) (fun iv _ => xs.length - (intOf iv).toNat)
              case atStart => exact ⟨0, rfl, by omega, Below.refl _ _⟩
              case round =>
                obtain ⟨j, rfl, hj, HR⟩ := hrel
                by_cases hlt : j < xs.length
                · have hjl : (j : Int) < (xs.length : Int) := by omega
                  have HXr := Lib.hid (HX8.out.below HR.out)
                  obtain ⟨vb0, vo, vc, e1, _, hvb, hcs⟩ := ents_at HXr.out (by omega)
                  injection e1 with e1 _ e3
                  subst e1 e3
                  obtain ⟨ke, ve, hke, hve, c0, c1, c2, c3⟩ := hcs j hlt
                  obtain ⟨kea, kec, rfl⟩ := hke.isSlice
                  obtain ⟨vea, vec, rfl⟩ := hve.isSlice
                  have HKE := Lib.hid hke
                  have HVE := Lib.hid hve
                  have HGJ := Lib.hid (HGE.out _ (List.getElem_mem hlt))
                  have HPV : Hid (∀ i (hi : i + 1 = j), ∃ k, Bytes _ wr k xs[i].key ∧ wr.cell? ⟨vb0, vo + i * 4, none⟩ = some k ∧ wr.cell? ⟨vb0, vo + i * 4 + 1, none⟩ = some (.int .u64 xs[i].seq) ∧ Ent.cmp xs[i] xs[j] < 0) := fun i hi => by
                    obtain ⟨k', _, h1, _, h2, h3, _⟩ := hcs i (by omega)
                    exact ⟨k', h1, h2, h3, List.pairwise_iff_getElem.1 HRI.out i j (by omega) hlt (by omega)⟩
                  have HVB := Lib.hid hvb
                  clear hcs hke hve hvb
                  go_upto_if 158 with fail
                  go_cut [158] from 111 to 157 (fun s wx => s = .bool false ∧ ∃ n, wx = wr.drewN n)
                  case first =>
                    by_cases hj0 : j = 0
                    · clear HPV
                      have hj0' : ¬ (0 : Int) < (j : Int) := by omega
                      have hj0n : ¬ 0 < j := by omega
                      clear hj0
                      generalize xs[j] = e at *
                      go_wp2_with fail
                      go_quiet (fail)
                      all_goals
                        go_wp2_with fail
                        go_meet
                        exact ⟨rfl, by first | exact ⟨_, rfl⟩ | exact ⟨1, rfl⟩⟩
                    · obtain ⟨i, hij⟩ : ∃ i, i + 1 = j := ⟨j - 1, by omega⟩
                      obtain ⟨kp, hkp, d0, d1, hcm⟩ := HPV.out i hij
                      obtain ⟨kpa, kpc, rfl⟩ := hkp.isSlice
                      have HKP := Lib.hid hkp
                      have h0j : (0 : Int) < (j : Int) := by omega
                      have h0jn : 0 < j := by omega
                      have hji : IntKind.i64.wrap ((j : Int) - 1) = (i : Int) := by rw [wrap_small (by omega) (by omega)]; omega
                      have hil : (i : Int) < (xs.length : Int) := by omega
                      clear HPV hkp
                      generalize xs[j] = e at *
                      generalize xs[i] = d at *
                      clear hij hj0
                      by_cases hbl : Op.bytesLess d.key e.key = true
                      · have HBL := Lib.hid hbl
                        clear hbl hcm
                        go_wp2_with fail
                        go_quiet ((go_at_call 15; refine Calls.quiet_of (kbefore_at (b := true) _ _ _ _ _ _ _ (HKP.out.keep (fun _ _ _ => rfl)) (HKE.out.keep (fun _ _ _ => rfl)) HBL.out)))
                        all_goals
                          go_wp2_with fail
                          go_meet
                          exact ⟨rfl, by first | exact ⟨_, rfl⟩ | exact ⟨1, rfl⟩⟩
                      · have HBL : Hid (Op.bytesLess d.key e.key = false) := Lib.hid (by simpa using hbl)
                        have hks := (cmp_neg hcm).resolve_left hbl
                        have HKK : Hid (decide (d.key = e.key) = true) := Lib.hid (decide_eq_true hks.1)
                        have hsq := hks.2
                        clear hbl hcm hks
                        go_wp2_with fail
                        go_quiet (first
                          | (go_at_call 15; refine Calls.quiet_of (kbefore_at (b := false) _ _ _ _ _ _ _ (HKP.out.keep (fun _ _ _ => rfl)) (HKE.out.keep (fun _ _ _ => rfl)) HBL.out))
                          | (go_at_call 16; refine Calls.quiet_of (kbytes_at (b := true) _ _ _ _ _ _ _ (HKP.out.keep (fun _ _ _ => rfl)) (HKE.out.keep (fun _ _ _ => rfl)) HKK.out)))
                        all_goals
                          go_wp2_with fail
                          go_meet
                          exact ⟨rfl, by first | exact ⟨_, rfl⟩ | exact ⟨1, rfl⟩⟩
                  case rest =>
                    obtain ⟨rfl, hdn⟩ := hcut
                    go_upto_region 31 with fail
                    refine wp_gen fun wa hwa => ?_
                    have HBa : Hid (Below wr.heap.size wr wa) := below_drewN (by obtain ⟨n, rfl⟩ := hdn; exact ⟨n, hwa⟩)
                    have HKa := Lib.hid (HKE.out.below HBa.out)
                    have HVEa := Lib.hid (HVE.out.below HBa.out)
                    have HSa := Lib.hid (HS8.out.below (HR.out.trans (HBa.out.mono HR.out.size)))
                    have HRa : Hid (Below w9.heap.size w9 wa) := HR.out.trans (HBa.out.mono HR.out.size)
                    have HG : Hid (∀ W', Below wa.heap.size wa W' → Calls Try.prog 17 #[.pointer (some ⟨b', 0, none⟩), .slice kea xs[j].key.length kec, .int .u64 xs[j].seq] W' (EntPost W' xs[j] (.int .i64 0))) := fun W' hW' => by
                      have h := skGet_any _ b' hd' tt _ xs[j].key xs[j].seq (.slice kea xs[j].key.length kec) W' (((HT8.out.below HR.out).below HBa.out).below hW') (HKa.out.below hW')
                      rw [HGJ.out] at h
                      exact h
                    have HCa : Hid (C4o vb0 (vo + j * 4) xs[j] (.slice kea xs[j].key.length kec) (.slice vea xs[j].value.length vec) wa) := (show C4o vb0 (vo + j * 4) xs[j] (.slice kea xs[j].key.length kec) (.slice vea xs[j].value.length vec) wr from ⟨c0, c1, c2, c3⟩).keep HBa.out HVB.out
                    have HVa : Hid (vb0 < wa.heap.size) := Nat.lt_of_lt_of_le HVB.out HBa.out.size
                    clear hwa hdn c0 c1 c2 c3 HKE HVE HR HBa HVB HXr HPV HGJ
                    generalize xs[j] = e at *
                    go_cut [16, 17] from 159 to 173 (fun s t wx => ∃ (z : Nat) (a1 a2 : Option Addr) (n1 n2 : Nat), s = .pointer (some ⟨z, 0, none⟩) ∧ t = .int .i64 0 ∧ Hid (Blk wx z (entCells e (.slice a1 e.key.length n1) (.slice a2 e.value.length n2)).toArray 34) ∧ Hid (∃ F, Bytes F wx (.slice a1 e.key.length n1) e.key) ∧ Hid (∃ F, Bytes F wx (.slice a2 e.value.length n2) e.value) ∧ Hid (Below wa.heap.size wa wx))
                    case first =>
                      go_region_held3 (fun w' => w'.cell? ⟨vb0, vo + j * 4, none⟩ = some (.slice kea e.key.length kec) ∧ w'.cell? ⟨vb0, vo + j * 4 + 1, none⟩ = some (.int .u64 e.seq) ∧ w'.cell? ⟨vb0, vo + j * 4 + 2, none⟩ = some (.int .i64 e.kind) ∧ w'.cell? ⟨vb0, vo + j * 4 + 3, none⟩ = some (.slice vea e.value.length vec))
                        (first | exact HCa.out | exact HCa.out.keep (below_drew ((Below.refl _ _).alloc (Nat.le_refl _) _)) HVa.out | exact HCa.out.keep hb1 HVa.out | exact HCa.out.keep (hb1.alloc hb1.size _) HVa.out | exact HCa.out.keep ((((hb1.setCell (Nat.le_refl _) _).setCell (Nat.le_refl _) _).setCell (Nat.le_refl _) _).setCell (Nat.le_refl _) _) HVa.out)
                        (first
                          | (go_at_call 17; refine Calls.mono (HG.out _ (below_drew ((Below.refl _ _).alloc (Nat.le_refl _) _))) ?_; rintro _ x1 ⟨vk, vv, rfl, hk, hv, hbx⟩; obtain ⟨ka1, kc1, rfl⟩ := hk.isSlice; obtain ⟨va1, vc1, rfl⟩ := hv.isSlice; have hb0 := (Below.refl wa.heap.size wa).alloc (Nat.le_refl _) (.cells zeroE 34); have hb1 : Below wa.heap.size wa x1 := hb0.trans ((below_of_drew hbx).mono hb0.size); have HZ0 : Blk (wa.alloc (.cells zeroE 34)) wa.heap.size zeroE 34 := Blk.at_new rfl rfl; have HZ : Blk x1 wa.heap.size zeroE 34 := Blk.below (w := (wa.alloc (.cells zeroE 34)).drew) HZ0 hbx HZ0.lt; have z0 := HZ.cell (i := 0) rfl; have z1 := HZ.cell (i := 1) rfl; have z2 := HZ.cell (i := 2) rfl; have z3 := HZ.cell (i := 3) rfl; have f0 := HZ.free 0; have f1 := HZ.free 1; have f2 := HZ.free 2; have f3 := HZ.free 3; unfold entCells; skip)
                          | (go_at_call 17; refine Calls.mono (HG.out _ (below_drew (Below.refl _ _))) ?_; rintro _ x1 ⟨vk, vv, rfl, hk, hv, hbx⟩; obtain ⟨ka1, kc1, rfl⟩ := hk.isSlice; obtain ⟨va1, vc1, rfl⟩ := hv.isSlice; have hb1 : Below wa.heap.size wa x1 := below_of_drew hbx; unfold entCells; skip))
                      · go_wp2_with fail
                        go_meet
                        exact ⟨x1.heap.size, ka1, va1, kc1, vc1, rfl, rfl, Blk.at_new rfl rfl, ⟨_, hk.below ((Below.refl _ _).alloc (Nat.le_refl _) _)⟩, ⟨_, hv.below ((Below.refl _ _).alloc (Nat.le_refl _) _)⟩, hb1.alloc hb1.size _⟩
                      · go_wp2_with fail
                        go_meet
                        have hne : ∀ k, (wa.alloc (.cells zeroE 34)).heap.size ≤ k → k ≠ wa.heap.size := fun k hk => by have := HZ0.lt; omega
                        exact ⟨wa.heap.size, ka1, va1, kc1, vc1, rfl, rfl, (((HZ.set 0 _).set 1 _).set 2 _).set 3 _,
                          ⟨_, hk.keep fun k _ hk' => by rw [heap_setCell_other _ _ _ _ (hne k hk'), heap_setCell_other _ _ _ _ (hne k hk'), heap_setCell_other _ _ _ _ (hne k hk'), heap_setCell_other _ _ _ _ (hne k hk')]⟩,
                          ⟨_, hv.keep fun k _ hk' => by rw [heap_setCell_other _ _ _ _ (hne k hk'), heap_setCell_other _ _ _ _ (hne k hk'), heap_setCell_other _ _ _ _ (hne k hk'), heap_setCell_other _ _ _ _ (hne k hk')]⟩,
                          (((hb1.setCell (Nat.le_refl _) _).setCell (Nat.le_refl _) _).setCell (Nat.le_refl _) _).setCell (Nat.le_refl _) _⟩
                    case rest =>
                      obtain ⟨z, a1, a2, n1, n2, rfl, rfl, HZ, HZ1, HZ2, HWx⟩ := hcut
                      go_upto_region 32 with fail
                      refine wp_gen fun wb hwb => ?_
                      subst hwb
                      have HCb : Hid (C4o vb0 (vo + j * 4) e (.slice kea e.key.length kec) (.slice vea e.value.length vec) wb) := HCa.out.keep HWx.out HVa.out
                      have HVb : Hid (vb0 < wb.heap.size) := Nat.lt_of_lt_of_le HVa.out HWx.out.size
                      have HCz : Hid (C4o z 0 e (.slice a1 e.key.length n1) (.slice a2 e.value.length n2) wb) := ⟨HZ.out.cell rfl, HZ.out.cell rfl, HZ.out.cell rfl, HZ.out.cell rfl⟩
                      have HVz : Hid (z < wb.heap.size) := HZ.out.lt
                      have HKb := Lib.hid ((HKa.out.below HWx.out).below (below_drew (Below.refl _ _)))
                      have HVEb := Lib.hid ((HVEa.out.below HWx.out).below (below_drew (Below.refl _ _)))
                      obtain ⟨F1, hz1⟩ := HZ1.out
                      obtain ⟨F2, hz2⟩ := HZ2.out
                      have HZ1d := Lib.hid (hz1.below (below_drew (Below.refl _ _)))
                      have HZ2d := Lib.hid (hz2.below (below_drew (Below.refl _ _)))
                      have HSb := Lib.hid ((HSa.out.below HWx.out).below (below_drew (Below.refl _ _)))
                      have HRb : Hid (Below w9.heap.size w9 wb) := HRa.out.trans (HWx.out.mono HRa.out.size)
                      obtain ⟨st, hst, HGS⟩ : ∃ st : Nat, ¬ ((xs.length : Int) + 12 < (st : Int)) ∧ Hid (∀ W', Below wb.drew.heap.size wb.drew W' → Calls Try.prog 19 #[.pointer (some ⟨b, 0, none⟩), .slice kea e.key.length kec, .int .u64 e.seq] W' (fun x w' => x = .returned (.int .i64 (st : Int)) ∧ Below W'.heap.size W' w')) :=
                        ⟨stepsOf 12 (ahead (plc e.key e.seq) ts), by have h1 := steps_bound (plc e.key e.seq) ts; have h2 := HTL.out; omega, fun W' hW' => skSteps_any _ b hd ts _ e.key e.seq (.slice kea e.key.length kec) W' (HSb.out.below hW') (HKb.out.below hW')⟩
                      have hw12 : IntKind.i64.wrap ((xs.length : Int) + 12) = (xs.length : Int) + 12 := wrap_small (by omega) (by omega)
                      clear HZ HZ1 HZ2 hz1 hz2 HCa HVa HKa HVEa HSa HRa HWx HG
                      go_region_held3 (fun w' => (w'.cell? ⟨z, 0, none⟩ = some (.slice a1 e.key.length n1) ∧ w'.cell? ⟨z, 1, none⟩ = some (.int .u64 e.seq) ∧ w'.cell? ⟨z, 2, none⟩ = some (.int .i64 e.kind) ∧ w'.cell? ⟨z, 3, none⟩ = some (.slice a2 e.value.length n2)) ∧ (w'.cell? ⟨vb0, vo + j * 4, none⟩ = some (.slice kea e.key.length kec) ∧ w'.cell? ⟨vb0, vo + j * 4 + 1, none⟩ = some (.int .u64 e.seq) ∧ w'.cell? ⟨vb0, vo + j * 4 + 2, none⟩ = some (.int .i64 e.kind) ∧ w'.cell? ⟨vb0, vo + j * 4 + 3, none⟩ = some (.slice vea e.value.length vec)))
                        (first | exact ⟨HCz.out, HCb.out⟩ | exact ⟨HCz.out.keep (below_of_drew hbx) HVz.out, HCb.out.keep (below_of_drew hbx) HVb.out⟩ | exact ⟨HCz.out.keep ((below_of_drew hbx).trans (hby.mono hbx.size)) HVz.out, HCb.out.keep ((below_of_drew hbx).trans (hby.mono hbx.size)) HVb.out⟩)
                        (first
                          | (go_at_call 18; refine Calls.mono (kentry_same _ _ _ _ e (.slice a1 e.key.length n1) (.slice a2 e.value.length n2) (.slice kea e.key.length kec) (.slice vea e.value.length vec) _ HZ1d.out HZ2d.out HKb.out HVEb.out) ?_; rintro _ x1 ⟨rfl, hbx⟩; skip)
                          | (go_at_call 19; refine Calls.mono (HGS.out _ hbx) ?_; rintro _ x2 ⟨rfl, hby⟩; skip))
                      all_goals
                        have HRn : Hid (Below w9.heap.size w9 x2) := HRb.out.trans (((below_of_drew hbx).trans (hby.mono hbx.size)).mono HRb.out.size)
                        clear HCz HCb HZ1d HZ2d HKb HVEb HSb HRb hbx hby hw12 HGS
                        go_wp2_with fail
                        exact ⟨⟨j + 1, by go_num, by omega, HRn⟩, by simp only [intOf]; omega⟩
                · have hjl : ¬ (j : Int) < (xs.length : Int) := by omega
                  go_wp2_with fail
                  go_ret
                  exact ⟨rfl, HW8.out.trans (HR.out.mono HW8.out.size)⟩
    · have hwe' : (20000 : Int) < (weighE l : Int) := by omega
      go_wp2_with fail
      go_ret
      exact ⟨rfl, HW2.out⟩
  · have hlen' : (120 : Int) < (l.length : Int) := by omega
    go_wp2_with fail
    go_ret
    exact ⟨rfl, HW1.out⟩
end Go.Proofs.Ytdjjkdhhjdafmaa
