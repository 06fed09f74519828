/- The law IngestScript: its walk. -/
import Derived.Test.YtiofhmlmimbngaaDuo
import Derived.Test.YtiofhmlmimbngaaROffer
import Derived.Test.YtiofhmlmimbngaaIngNew
import Derived.Test.YtiofhmlmimbngaaIngSmall
import Derived.Test.YtiofhmlmimbngaaIngA
import Derived.Test.YtiofhmlmimbngaaIngB
import Derived.Test.YtiofhmlmimbngaaSpanD
import Derived.Test.YtiofhmlmimbngaaPick
import Derived.Test.YtiofhmlmimbngaaRef17C
import Derived.Deep.RegionHeld3
namespace Go.Proofs.Ytiofhmlmimbngaa
open Go.RowKit

set_option maxRecDepth 100000 in
set_option maxHeartbeats 8000000 in
theorem ingestScript_of (hrc : RCheck) (W : World) (n m : Int) (v : Value) (acts : List Act) (hv : Rw actK (· < W.heap.size) W v acts) :
    Calls Try.prog 5 #[.agg #[.int .i64 n, .int .i64 m], v] W fun e w' => e = .returned (.bool true) ∧ Below W.heap.size W w' := by
  obtain ⟨a, c, rfl⟩ := hv.isSlice
  have hML := hv.len
  simp only [maxLen] at hML
  have HV := Lib.hid hv
  have HRC := Lib.hid hrc
  clear hv hrc
  go_enter Try.func5, Try.ntmps5
  go_wp2_with fail
  refine calls_gen fun w1 hw1 => ?_
  have HW1 : Hid (Below W.heap.size W w1) := by rw [hw1]; exact (Below.refl _ _).alloc (Nat.le_refl _) _
  have HS1 : Hid (Blk w1 W.heap.size #[.int .i64 n, .int .i64 m] 27) := by rw [hw1]; exact Blk.at_new rfl rfl
  clear hw1
  refine Calls.mono (lives19_any w1) ?_
  rintro e w2 ⟨rfl, hb2⟩
  have HW2 : Hid (Below W.heap.size W w2) := HW1.out.trans (hb2.mono HW1.out.size)
  have HS2 := Lib.hid (HS1.out.below hb2 HS1.out.lt)
  clear hb2 HW1 HS1
  go_wp2_with fail
  refine Calls.mono (small_any _ _ acts _ (HV.out.below HW2.out)) ?_
  rintro e w3 ⟨bb, rfl, hbb, hb3⟩
  have HW3 : Hid (Below W.heap.size W w3) := HW2.out.trans (hb3.mono HW2.out.size)
  have HS3 := Lib.hid (HS2.out.below hb3 HS2.out.lt)
  clear hb3 HW2 HS2
  cases bb with
  | false =>
    go_wp2_with fail
    go_ret
    exact ⟨rfl, HW3.out⟩
  | true =>
    have hsm : acts.length ≤ 150 ∧ ∀ a ∈ acts, a.l.length ≤ 20 := by first | exact hbb rfl | exact hbb trivial | exact hbb
    obtain ⟨hl, hll⟩ := hsm
    have HLL := Lib.hid hll
    clear hbb hll
    have k0 : w3.cell? ⟨W.heap.size, 0, none⟩ = some (.int .i64 n) := HS3.out.cell rfl
    have k1 : w3.cell? ⟨W.heap.size, 1, none⟩ = some (.int .i64 m) := HS3.out.cell rfl
    go_wp2_with fail
    clear k0 k1
    by_cases hbad : badSetup n m
    · have hcode : Hid ((2 : Int) = if badSetup n m then 2 else 0) := (if_pos hbad).symm
      refine Calls.mono (new_bad n m hbad _) ?_
      rintro e w4 ⟨rfl, hb4⟩
      have HW4 : Hid (Below W.heap.size W w4) := HW3.out.trans (hb4.mono HW3.out.size)
      have HS4 := Lib.hid (HS3.out.below hb4 HS3.out.lt)
      clear hb4 HW3 HS3
      have k0 : w4.cell? ⟨W.heap.size, 0, none⟩ = some (.int .i64 n) := HS4.out.cell rfl
      have k1 : w4.cell? ⟨W.heap.size, 1, none⟩ = some (.int .i64 m) := HS4.out.cell rfl
      go_wp2_with fail
      clear k0 k1
      refine Calls.mono (rnew_bad n m hbad _) ?_
      rintro e w5 ⟨rfl, hb5⟩
      have HW5 : Hid (Below W.heap.size W w5) := HW4.out.trans (hb5.mono HW4.out.size)
      have HS5 := Lib.hid (HS4.out.below hb5 HS4.out.lt)
      clear hb5 HW4 HS4
      clear hbad
      go_wp2_with fail
      have hS5 : w5.drew.cell? ⟨W.heap.size, 0, none⟩ = some (.int .i64 n) ∧ w5.drew.cell? ⟨W.heap.size, 1, none⟩ = some (.int .i64 m) := ⟨HS5.out.cell rfl, HS5.out.cell rfl⟩
      go_region_held3 (fun w' => w'.cell? ⟨W.heap.size, 0, none⟩ = some (.int .i64 n) ∧ w'.cell? ⟨W.heap.size, 1, none⟩ = some (.int .i64 m)) (first | assumption | go_keep)
        (first
        | (go_at_call 22; (with_reducible refine Calls.mono (check_at _ _ 2 hcode.out _) ?_); rintro e w6 ⟨rfl, hb6⟩; have HB6 : Hid (Below w5.heap.size w5 w6) := below_of_drew hb6; have HW6 : Hid (Below W.heap.size W w6) := HW5.out.trans (HB6.out.mono HW5.out.size); have HS6 := Lib.hid (HS5.out.below HB6.out HS5.out.lt); have hS6 : w6.cell? ⟨W.heap.size, 0, none⟩ = some (.int .i64 n) ∧ w6.cell? ⟨W.heap.size, 1, none⟩ = some (.int .i64 m) := ⟨HS6.out.cell rfl, HS6.out.cell rfl⟩; clear hb6)
        | (go_at_call 23; (with_reducible refine Calls.mono (rcheck_at _ _ 2 hcode.out _) ?_); rintro e w7 ⟨rfl, hb7⟩; have HB7 : Hid (Below w6.heap.size w6 w7) := hb7; have HW7 : Hid (Below W.heap.size W w7) := HW6.out.trans (HB7.out.mono HW6.out.size); have HS7 := Lib.hid (HS6.out.below HB7.out HS6.out.lt); have hS7 : w7.cell? ⟨W.heap.size, 0, none⟩ = some (.int .i64 n) ∧ w7.cell? ⟨W.heap.size, 1, none⟩ = some (.int .i64 m) := ⟨HS7.out.cell rfl, HS7.out.cell rfl⟩; clear hb7))
      go_wp2_with fail
      go_ret
      exact ⟨rfl, HW7.out⟩
    · have hcode : Hid ((0 : Int) = if badSetup n m then 2 else 0) := (if_neg hbad).symm
      obtain ⟨n, rfl⟩ : ∃ k : Nat, n = (k : Int) := ⟨n.toNat, by unfold badSetup at hbad; omega⟩
      obtain ⟨m, rfl⟩ : ∃ k : Nat, m = (k : Int) := ⟨m.toNat, by unfold badSetup at hbad; omega⟩
      have hnm : 0 < n ∧ n ≤ 64 ∧ 0 < m ∧ m ≤ 8 := by unfold badSetup at hbad; omega
      refine Calls.mono (new_good (X := NoX) n m hnm.1 hnm.2.1 hnm.2.2.1 hnm.2.2.2 w3) ?_
      rintro e w4 ⟨b, rb, hb, rfl, hi4, hb4⟩
      have HI4 := Lib.hid hi4
      have HW4 : Hid (Below W.heap.size W w4) := HW3.out.trans (hb4.mono HW3.out.size)
      have HS4 := Lib.hid (HS3.out.below hb4 HS3.out.lt)
      have HX4 : Hid (W.heap.size ≤ w3.heap.size) := HW3.out.size
      have HY4 : Hid (w3.heap.size ≤ w4.heap.size) := hb4.size
      clear hb4 HW3 HS3 hi4
      have k0 : w4.cell? ⟨W.heap.size, 0, none⟩ = some (.int .i64 (n : Int)) := HS4.out.cell rfl
      have k1 : w4.cell? ⟨W.heap.size, 1, none⟩ = some (.int .i64 (m : Int)) := HS4.out.cell rfl
      go_wp2_with fail
      clear k0 k1
      refine Calls.mono (rnew_good n m hnm.1 hnm.2.1 hnm.2.2.1 hnm.2.2.2 w4) ?_
      rintro e w5 ⟨b', hb', rfl, hi5, hb5⟩
      have HW5 : Hid (Below W.heap.size W w5) := HW4.out.trans (hb5.mono HW4.out.size)
      have HS5 := Lib.hid (HS4.out.below hb5 HS4.out.lt)
      have HD5 : Hid (Duo W.heap.size w3.heap.size w4.heap.size b rb hb b' hb' none W w5 ⟨n, m, 0, 0, [], List.replicate m []⟩ ⟨n, m, 0, 0, [], List.replicate m []⟩) :=
        ⟨(((HI4.out.next_ hb5).xmono (X' := apart b' hb' none) fun k hk e => by
          rcases e with e | e | e
          · have := hi5.l1; omega
          · have := hi5.l3; omega
          · cases e).up hb5.size (Nat.le_refl _)), hi5, HI4.out.u1, HI4.out.u2, HI4.out.u3, HX4.out, HY4.out, HW5.out⟩
      clear hb5 hi5 HI4 HW4 HS4 HX4 HY4 hbad
      go_wp2_with fail
      have hS5 : w5.drew.cell? ⟨W.heap.size, 0, none⟩ = some (.int .i64 (n : Int)) ∧ w5.drew.cell? ⟨W.heap.size, 1, none⟩ = some (.int .i64 (m : Int)) := ⟨HS5.out.cell rfl, HS5.out.cell rfl⟩
      go_region_held3 (fun w' => w'.cell? ⟨W.heap.size, 0, none⟩ = some (.int .i64 (n : Int)) ∧ w'.cell? ⟨W.heap.size, 1, none⟩ = some (.int .i64 (m : Int))) (first | assumption | go_keep)
        (first
        | (go_at_call 22; (with_reducible refine Calls.mono (check_at _ _ 0 hcode.out _) ?_); rintro e w6 ⟨rfl, hb6⟩; have HB6 : Hid (Below w5.heap.size w5 w6) := below_of_drew hb6; have HS6 := Lib.hid (HS5.out.below HB6.out HS5.out.lt); have HD6 := Lib.hid (HD5.out.below HB6.out); have hS6 : w6.cell? ⟨W.heap.size, 0, none⟩ = some (.int .i64 (n : Int)) ∧ w6.cell? ⟨W.heap.size, 1, none⟩ = some (.int .i64 (m : Int)) := ⟨HS6.out.cell rfl, HS6.out.cell rfl⟩; clear hb6)
        | (go_at_call 23; (with_reducible refine Calls.mono (rcheck_at _ _ 0 hcode.out _) ?_); rintro e w7 ⟨rfl, hb7⟩; have HB7 : Hid (Below w6.heap.size w6 w7) := hb7; have HS7 := Lib.hid (HS6.out.below HB7.out HS6.out.lt); have HD7 := Lib.hid (HD6.out.below HB7.out); have hS7 : w7.cell? ⟨W.heap.size, 0, none⟩ = some (.int .i64 (n : Int)) ∧ w7.cell? ⟨W.heap.size, 1, none⟩ = some (.int .i64 (m : Int)) := ⟨HS7.out.cell rfl, HS7.out.cell rfl⟩; clear hb7))
      generalize w3.heap.size = lo at *
      generalize w4.heap.size = lo' at *
      clear hS5 hS6 hS7 HS5 HS6 HS7 HD5 HD6 HW5 HB6 HB7
      have hn64 : m ≤ 8 := hnm.2.2.2
      generalize hq0 : (⟨n, m, 0, 0, [], List.replicate m []⟩ : Iq) = q0 at *
      have HN0 : Hid (q0.next = 0) := by show _ = _; rw [← hq0]
      clear hq0 hnm hcode
      go_wp2_with fail
      go_loopw [9] (fun i wr => ∃ (j : Nat) (q : Iq) (qb : Option Nat), i = .int .i64 (j : Int) ∧ j ≤ acts.length ∧ Hid (q.next ≤ j) ∧ Hid (Duo W.heap.size lo lo' b rb hb b' hb' qb W wr q q)) (fun i _ => acts.length - (intOf i).toNat)
      case atStart => exact ⟨0, q0, none, rfl, by omega, Nat.le_of_eq HN0.out, HD7⟩
      case round =>
        obtain ⟨j, q, qb, rfl, hj, HQ, HD⟩ := hrel
        by_cases hlt : j < acts.length
        · obtain ⟨sb, off, cap, ea, hsb, hc⟩ := acts_at HV.out (by omega)
          injection ea with e1 e2 e3
          subst e1 e3
          clear e2
          obtain ⟨vl, ht, hkd, c0, c1, c2⟩ := hc j hlt
          obtain ⟨la, lc, rfl⟩ := ht.isSlice
          have HT := Lib.hid ht
          have hl20 : acts[j].l.length ≤ 20 := HLL.out _ (List.getElem_mem hlt)
          replace c0 := (World.cell?_of_block (HD.out.W.block sb hsb)).trans c0
          replace c1 := (World.cell?_of_block (HD.out.W.block sb hsb)).trans c1
          replace c2 := (World.cell?_of_block (HD.out.W.block sb hsb)).trans c2
          clear hc ht
          generalize acts[j] = act at *
          obtain ⟨kd, ll, wk⟩ := act
          dsimp only at *
          have hjl : (j : Int) < (acts.length : Int) := by omega
          go_wp2_with fail
          clear c0 c1 c2
          refine calls_gen fun w1 hw1 => ?_
          have HB1 : Hid (Below wr.heap.size wr w1) := by rw [hw1]; exact (Below.refl _ _).alloc (Nat.le_refl _) _
          have HA1 : Hid (Blk w1 wr.heap.size #[.int .i64 kd, .slice la ll.length lc, .int .i64 wk] 48) := by rw [hw1]; exact Blk.at_new rfl rfl
          clear hw1
          have HD1 := Lib.hid (HD.out.below HB1.out)
          have HU : Hid (b < wr.heap.size ∧ rb < wr.heap.size ∧ hb < wr.heap.size ∧ b' < wr.heap.size ∧ hb' < wr.heap.size ∧ ∀ g, qb = some g → g < wr.heap.size) := ⟨HD.out.I.u1, HD.out.I.u2, HD.out.I.u3, HD.out.R.u1, HD.out.R.u3, fun g e => (HD.out.R.qlo g e).2.1⟩
          generalize wr.heap.size = A at *
          clear HB1 HD
          refine Calls.mono (pick_any kd 3 _ hkd.1 hkd.2 (by decide) (by decide)) ?_
          rintro e w2 ⟨k, hk3, rfl, rfl⟩
          clear hkd
          by_cases hk0 : k = 0
          · subst hk0
            go_wp2_with fail
            have HDd1 : Hid (Duo W.heap.size lo lo' b rb hb b' hb' qb W w1.drew q q) := HD1.out.dn 1
            have HAd1 : Hid (Blk w1.drew A #[.int .i64 kd, .slice la ll.length lc, .int .i64 wk] 48) := HA1.out.drew
            have hnx : q.next < 1000000 := by have := HQ.out; omega
            have hSp : w1.drew.cell? ⟨A, 1, none⟩ = some (.slice la ll.length lc) := HAd1.out.cell rfl
            go_region_held3 (fun w' => w'.cell? ⟨A, 1, none⟩ = some (.slice la ll.length lc)) (first | assumption | go_keep)
              (first
              | (go_at_call 9; (with_reducible refine Calls.mono (offer_any _ _ b rb hb q (· < W.heap.size) (.slice la ll.length lc) ll _ (HT.out.keepB HDd1.out.W) (by omega) HDd1.out.I hnx HDd1.out.apartLt) ?_); rintro e w3 ⟨rfl, hi3, hw3⟩; have HA3 : Hid (Blk w3 A #[.int .i64 kd, .slice la ll.length lc, .int .i64 wk] 48) := HAd1.out.same (hw3.block A HAd1.out.lt (by have := HU.out; rintro (e | e) <;> omega)); have HD3 := Lib.hid (HDd1.out.impl hw3 (by rintro k (rfl | rfl); exact .inl rfl; exact .inr (.inl rfl)) hi3); have hS3 : w3.cell? ⟨A, 1, none⟩ = some (.slice la ll.length lc) := HA3.out.cell rfl; clear hi3 hw3)
              | (go_at_call 24; (with_reducible refine Calls.mono (roffer_of HRC.out _ _ b' hb' qb q (· < W.heap.size) (.slice la ll.length lc) ll _ (HT.out.keepB HD3.out.W) (by omega) HD3.out.R) ?_); rintro e w4 ⟨qb2, rfl, hr4, hw4, hq4⟩; have HA4 : Hid (Blk w4 A #[.int .i64 kd, .slice la ll.length lc, .int .i64 wk] 48) := HA3.out.same (hw4.block A HA3.out.lt (by have := HU.out; rintro (e | e); omega; have := this.2.2.2.2.2 A e; omega)); have HD4 := Lib.hid (HD3.out.ref hw4 (by rintro k (rfl | e); exact .inl rfl; exact .inr (.inr e)) hr4 hq4); have hS4 : w4.cell? ⟨A, 1, none⟩ = some (.slice la ll.length lc) := HA4.out.cell rfl; clear hr4 hw4 hq4))
            have HQ2 : Hid ((q.offer ll).2.next ≤ j + 1) := by have := HQ.out; have := q.offer_next ll; show _ ≤ _; omega
            generalize q.offer ll = r at *
            obtain ⟨er, q2⟩ := r
            dsimp only at *
            clear hSp hS3 hS4 HDd1 HAd1 HD1 HA1 HD3 HA3 hnx
            go_wp2_with fail
            have HDd4 : Hid (Duo W.heap.size lo lo' b rb hb b' hb' (qb2) W w4.drew (q2) (q2)) := HD4.out.dn 1
            have HAd4 : Hid (Blk w4.drew A #[.int .i64 kd, .slice la ll.length lc, .int .i64 wk] 48) := HA4.out.drew
            obtain ⟨zh, hzh⟩ : ∃ z : Int, z = if wk < 0 then 0 else (((q2).held.getD wk.toNat []).length : Int) := ⟨_, rfl⟩
            have HZ := Lib.hid hzh
            clear hzh
            have hS4 : w4.drew.cell? ⟨A, 2, none⟩ = some (.int .i64 wk) := HAd4.out.cell rfl
            go_region_held3 (fun w' => w'.cell? ⟨A, 2, none⟩ = some (.int .i64 wk)) (first | assumption | go_keep)
              (first
              | (go_at_call 11; (with_reducible refine Calls.mono (runnable_any _ _ b rb hb (q2) _ HDd4.out.I) ?_); rintro e x1 ⟨v1, rfl, ho1, hb1⟩; obtain ⟨ra1, rc1, rfl⟩ := ho1.isSlice; have HO1 := Lib.hid ho1.rows; have HDx1 := Lib.hid (HDd4.out.below hb1); have HAx1 := Lib.hid (HAd4.out.below hb1 HAd4.out.lt); have hSx1 : x1.cell? ⟨A, 2, none⟩ = some (.int .i64 wk) := HAx1.out.cell rfl; clear ho1 hb1)
              | (go_at_call 27; (with_reducible refine Calls.mono (rrunnable_any _ _ b' hb' _ (q2) _ HDx1.out.R HDx1.out.I.len) ?_); rintro e x2 ⟨v2, rfl, ho2, hb2⟩; obtain ⟨ra2, rc2, rfl⟩ := ho2.isSlice; have HO2 := Lib.hid ho2.rows; have HO1 := Lib.hid (HO1.out.below hb2); have HDx2 := Lib.hid (HDx1.out.below hb2); have HAx2 := Lib.hid (HAx1.out.below hb2 HAx1.out.lt); have hSx2 : x2.cell? ⟨A, 2, none⟩ = some (.int .i64 wk) := HAx2.out.cell rfl; clear ho2 hb2)
              | (go_at_call 13; (with_reducible refine Calls.mono (ints_same _ _ _ _ (q2).runnable _ HO1.out HO2.out) ?_); rintro e x3 ⟨rfl, n3, hx3⟩; have hb3 : Below x2.heap.size x2 x3 := (by rw [hx3]; exact below_dn (Below.refl _ _) _); have HDx3 := Lib.hid (HDx2.out.below hb3); have HAx3 := Lib.hid (HAx2.out.below hb3 HAx2.out.lt); have hSx3 : x3.cell? ⟨A, 2, none⟩ = some (.int .i64 wk) := HAx3.out.cell rfl; clear hb3 hx3)
              | (go_at_call 18; (with_reducible refine Calls.mono (waiting_any _ _ b rb hb (q2) _ HDx3.out.I) ?_); rintro e x4 ⟨rfl, n4, hx4⟩; have hb4 : Below x3.heap.size x3 x4 := (by rw [hx4]; exact below_dn (Below.refl _ _) _); have HDx4 := Lib.hid (HDx3.out.below hb4); have HAx4 := Lib.hid (HAx3.out.below hb4 HAx3.out.lt); have hSx4 : x4.cell? ⟨A, 2, none⟩ = some (.int .i64 wk) := HAx4.out.cell rfl; clear hb4 hx4)
              | (go_at_call 28; (with_reducible refine Calls.mono (rwaiting_any _ _ b' hb' _ (q2) _ HDx4.out.R) ?_); rintro e x5 ⟨rfl, rfl⟩; skip)
              | (go_at_call 29; (with_reducible refine Calls.mono (held_at _ _ b rb hb (q2) wk zh HZ.out _ HDx4.out.I) ?_); rintro e x6 ⟨rfl, rfl⟩; skip)
              | (go_at_call 30; (with_reducible refine Calls.mono (rheld_at _ _ b' hb' _ (q2) wk zh HZ.out _ HDx4.out.R) ?_); rintro e x7 ⟨rfl, rfl⟩; skip)
              | (go_at_call 14; (with_reducible refine Calls.mono (left_any _ _ b rb hb (q2) _ HDx4.out.I) ?_); rintro e x8 ⟨rfl, n8, hx8⟩; have HDx8 : Hid (Duo W.heap.size lo lo' b rb hb b' hb' (qb2) W x8 (q2) (q2)) := (by rw [hx8]; exact HDx4.out.dn _); have HAx8 : Hid (Blk x8 A #[.int .i64 kd, .slice la ll.length lc, .int .i64 wk] 48) := (by rw [hx8]; exact HAx4.out); have hSx8 : x8.cell? ⟨A, 2, none⟩ = some (.int .i64 wk) := HAx8.out.cell rfl; clear hx8)
              | (go_at_call 31; (with_reducible refine Calls.mono (rleft_any _ _ b' hb' _ (q2) _ HDx8.out.R) ?_); rintro e x9 ⟨rfl, rfl⟩; skip)
              | (go_at_call 15; (with_reducible refine Calls.mono (idle_any _ _ b rb hb (q2) _ HDx8.out.I) ?_); rintro e xa ⟨rfl, na, hxa⟩; have HDxa : Hid (Duo W.heap.size lo lo' b rb hb b' hb' (qb2) W xa (q2) (q2)) := (by rw [hxa]; exact HDx8.out.dn _); have HAxa : Hid (Blk xa A #[.int .i64 kd, .slice la ll.length lc, .int .i64 wk] 48) := (by rw [hxa]; exact HAx8.out); have hSxa : xa.cell? ⟨A, 2, none⟩ = some (.int .i64 wk) := HAxa.out.cell rfl; clear hxa)
              | (go_at_call 32; (with_reducible refine Calls.mono (ridle_any _ _ b' hb' _ (q2) _ HDxa.out.R) ?_); rintro e xb ⟨rfl, rfl⟩; skip))
            go_wp2_with fail
            go_roundw
            · exact ⟨j + 1, q2, qb2, by go_num, by omega, HQ2, HDxa⟩
            · simp only [intOf]; omega
          · have hk1 : ((k : Int) == 0) = false := beq_eq_false_iff_ne.2 (by omega)
            have hS1 : w1.cell? ⟨A, 2, none⟩ = some (.int .i64 wk) := HA1.out.cell rfl
            go_wp2_with fail
            clear hS1
            obtain ⟨⟨what, s, er, q2⟩, hr⟩ : ∃ r, q.step wk = r := ⟨_, rfl⟩
            have HR := Lib.hid hr
            have HQ2 : Hid (q2.next ≤ j + 1) := by have := HQ.out; have h2 := q.step_next wk; rw [hr] at h2; dsimp only at h2; show _ ≤ _; omega
            clear hr hk1
            refine Calls.mono (step_at lo _ b rb hb q wk _ HR.out w1 HD1.out.I) ?_
            rintro e w3 ⟨cs3, rfl, ⟨vt3, rfl, ht3⟩, hi3, hw3⟩
            obtain ⟨a3, c3, rfl⟩ := ht3.isSlice
            have HT3 := Lib.hid ht3
            have HA3 : Hid (Blk w3 A #[.int .i64 kd, .slice la ll.length lc, .int .i64 wk] 48) := HA1.out.same (hw3.block A HA1.out.lt (by have := HU.out; rintro (e | e) <;> omega))
            have HD3 := Lib.hid (HD1.out.impl hw3 (by rintro k (rfl | rfl); exact .inl rfl; exact .inr (.inr rfl)) hi3)
            clear hi3 hw3 ht3 HD1 HA1
            unfold spanCells
            go_upto_region 19 with fail
            refine wp_gen fun w4 hw4 => ?_
            have HB4 : Hid (Below w3.heap.size w3 w4) := by rw [hw4]; exact (Below.refl _ _).alloc (Nat.le_refl _) _
            have HS4 : Hid (Blk w4 w3.heap.size (spanCells s (.slice a3 s.tags.length c3)).toArray 35) := by rw [hw4]; exact Blk.at_new rfl rfl
            clear hw4
            have HT4 := Lib.hid (HT3.out.below HB4.out)
            have HA4 := Lib.hid (HA3.out.below HB4.out HA3.out.lt)
            have HD4 := Lib.hid (HD3.out.below HB4.out)
            have HZ3 : Hid (A < w3.heap.size ∧ lo' < w3.heap.size) := ⟨HA3.out.lt, by have := HD3.out.R.l1; have := HD3.out.R.u1; omega⟩
            clear HT3 HA3 HD3 HB4
            generalize w3.heap.size = z3 at *
            have hS4 : w4.cell? ⟨A, 2, none⟩ = some (.int .i64 wk) := HA4.out.cell rfl
            go_wp2_with fail
            clear hS4
            refine Calls.mono (rstep_at lo' _ b' hb' qb q wk _ HR.out w4 HD4.out.R) ?_
            rintro e w5 ⟨cs5, rfl, ⟨vt5, rfl, ht5⟩, hi5, hw5⟩
            obtain ⟨a5, c5, rfl⟩ := ht5.isSlice
            have HT5 := Lib.hid ht5
            have HA5 : Hid (Blk w5 A #[.int .i64 kd, .slice la ll.length lc, .int .i64 wk] 48) := HA4.out.same (hw5.block A HA4.out.lt (by have := HU.out; rintro (e | e) <;> omega))
            have HS5 : Hid (Blk w5 z3 (spanCells s (.slice a3 s.tags.length c3)).toArray 35) := HS4.out.same (hw5.block z3 HS4.out.lt (by have := HU.out; have := HZ3.out; rintro (e | e) <;> omega))
            have HT5a : Hid (Rw tagK (ft (apart b' hb' qb) lo z3 b rb hb) w5 (.slice a3 s.tags.length c3) s.tags) := HT4.out.keep fun k h1 h2 => hw5.block k h1 (by rintro (e | e); exact h2.2.2.2.2.2 (.inl e); exact h2.2.2.2.2.2 (.inr (.inl e)))
            have HD5 := Lib.hid (HD4.out.ref hw5 (by rintro k (rfl | rfl); exact .inl rfl; exact .inr (.inl rfl)) hi5 (.inl rfl))
            clear hi5 hw5 ht5 HD4 HA4 HS4 HT4
            unfold spanCells
            go_upto_region 20 with fail
            refine wp_gen fun w6 hw6 => ?_
            have HB6 : Hid (Below w5.heap.size w5 w6) := by rw [hw6]; exact (Below.refl _ _).alloc (Nat.le_refl _) _
            have HP6 : Hid (Blk w6 w5.heap.size (spanCells s (.slice a5 s.tags.length c5)).toArray 35) := by rw [hw6]; exact Blk.at_new rfl rfl
            clear hw6
            have HT6a := Lib.hid (HT5a.out.below HB6.out)
            have HT6b := Lib.hid (HT5.out.below HB6.out)
            have HA6 := Lib.hid (HA5.out.below HB6.out HA5.out.lt)
            have HS6 := Lib.hid (HS5.out.below HB6.out HS5.out.lt)
            have HD6 := Lib.hid (HD5.out.below HB6.out)
            clear HT5a HT5 HA5 HS5 HD5 HB6
            generalize w5.heap.size = z5 at *
            have p0 : w6.cell? ⟨z3, 0, none⟩ = some (.int .u64 s.hi) := HS6.out.cell rfl
            have p1 : w6.cell? ⟨z3, 1, none⟩ = some (.int .u64 s.lo) := HS6.out.cell rfl
            have p2 : w6.cell? ⟨z3, 2, none⟩ = some (.int .u64 s.id) := HS6.out.cell rfl
            have p3 : w6.cell? ⟨z3, 3, none⟩ = some (.int .u64 s.parent) := HS6.out.cell rfl
            have p4 : w6.cell? ⟨z3, 4, none⟩ = some (.string s.service) := HS6.out.cell rfl
            have p5 : w6.cell? ⟨z3, 5, none⟩ = some (.string s.name) := HS6.out.cell rfl
            have p6 : w6.cell? ⟨z3, 6, none⟩ = some (.int .i64 s.kind) := HS6.out.cell rfl
            have p7 : w6.cell? ⟨z3, 7, none⟩ = some (.int .i64 s.start) := HS6.out.cell rfl
            have p8 : w6.cell? ⟨z3, 8, none⟩ = some (.int .i64 s.length) := HS6.out.cell rfl
            have p9 : w6.cell? ⟨z3, 9, none⟩ = some (.bool s.fails) := HS6.out.cell rfl
            have p10 : w6.cell? ⟨z3, 10, none⟩ = some (.slice a3 s.tags.length c3) := HS6.out.cell rfl
            have r0 : w6.cell? ⟨z5, 0, none⟩ = some (.int .u64 s.hi) := HP6.out.cell rfl
            have r1 : w6.cell? ⟨z5, 1, none⟩ = some (.int .u64 s.lo) := HP6.out.cell rfl
            have r2 : w6.cell? ⟨z5, 2, none⟩ = some (.int .u64 s.id) := HP6.out.cell rfl
            have r3 : w6.cell? ⟨z5, 3, none⟩ = some (.int .u64 s.parent) := HP6.out.cell rfl
            have r4 : w6.cell? ⟨z5, 4, none⟩ = some (.string s.service) := HP6.out.cell rfl
            have r5 : w6.cell? ⟨z5, 5, none⟩ = some (.string s.name) := HP6.out.cell rfl
            have r6 : w6.cell? ⟨z5, 6, none⟩ = some (.int .i64 s.kind) := HP6.out.cell rfl
            have r7 : w6.cell? ⟨z5, 7, none⟩ = some (.int .i64 s.start) := HP6.out.cell rfl
            have r8 : w6.cell? ⟨z5, 8, none⟩ = some (.int .i64 s.length) := HP6.out.cell rfl
            have r9 : w6.cell? ⟨z5, 9, none⟩ = some (.bool s.fails) := HP6.out.cell rfl
            have r10 : w6.cell? ⟨z5, 10, none⟩ = some (.slice a5 s.tags.length c5) := HP6.out.cell rfl
            go_wp2_with fail
            clear p0 p1 p2 p3 p4 p5 p6 p7 p8 p9 p10 r0 r1 r2 r3 r4 r5 r6 r7 r8 r9 r10
            refine Calls.mono (sameSpan_same _ _ s (.slice a3 s.tags.length c3) (.slice a5 s.tags.length c5) w6 HT6a.out HT6b.out) ?_
            rintro e w7 ⟨rfl, hb7⟩
            have HA7 := Lib.hid (HA6.out.below hb7 HA6.out.lt)
            have HD7' := Lib.hid (HD6.out.below hb7)
            clear hb7 HA6 HD6 HS6 HP6 HT6a HT6b HZ3 HR
            go_wp2_with fail
            have HDd7' : Hid (Duo W.heap.size lo lo' b rb hb b' hb' (qb) W w7.drew (q2) (q2)) := HD7'.out.dn 1
            have HAd7' : Hid (Blk w7.drew A #[.int .i64 kd, .slice la ll.length lc, .int .i64 wk] 48) := HA7.out.drew
            obtain ⟨zh, hzh⟩ : ∃ z : Int, z = if wk < 0 then 0 else (((q2).held.getD wk.toNat []).length : Int) := ⟨_, rfl⟩
            have HZ := Lib.hid hzh
            clear hzh
            have hS7' : w7.drew.cell? ⟨A, 2, none⟩ = some (.int .i64 wk) := HAd7'.out.cell rfl
            go_region_held3 (fun w' => w'.cell? ⟨A, 2, none⟩ = some (.int .i64 wk)) (first | assumption | go_keep)
              (first
              | (go_at_call 11; (with_reducible refine Calls.mono (runnable_any _ _ b rb hb (q2) _ HDd7'.out.I) ?_); rintro e x1 ⟨v1, rfl, ho1, hb1⟩; obtain ⟨ra1, rc1, rfl⟩ := ho1.isSlice; have HO1 := Lib.hid ho1.rows; have HDx1 := Lib.hid (HDd7'.out.below hb1); have HAx1 := Lib.hid (HAd7'.out.below hb1 HAd7'.out.lt); have hSx1 : x1.cell? ⟨A, 2, none⟩ = some (.int .i64 wk) := HAx1.out.cell rfl; clear ho1 hb1)
              | (go_at_call 27; (with_reducible refine Calls.mono (rrunnable_any _ _ b' hb' _ (q2) _ HDx1.out.R HDx1.out.I.len) ?_); rintro e x2 ⟨v2, rfl, ho2, hb2⟩; obtain ⟨ra2, rc2, rfl⟩ := ho2.isSlice; have HO2 := Lib.hid ho2.rows; have HO1 := Lib.hid (HO1.out.below hb2); have HDx2 := Lib.hid (HDx1.out.below hb2); have HAx2 := Lib.hid (HAx1.out.below hb2 HAx1.out.lt); have hSx2 : x2.cell? ⟨A, 2, none⟩ = some (.int .i64 wk) := HAx2.out.cell rfl; clear ho2 hb2)
              | (go_at_call 13; (with_reducible refine Calls.mono (ints_same _ _ _ _ (q2).runnable _ HO1.out HO2.out) ?_); rintro e x3 ⟨rfl, n3, hx3⟩; have hb3 : Below x2.heap.size x2 x3 := (by rw [hx3]; exact below_dn (Below.refl _ _) _); have HDx3 := Lib.hid (HDx2.out.below hb3); have HAx3 := Lib.hid (HAx2.out.below hb3 HAx2.out.lt); have hSx3 : x3.cell? ⟨A, 2, none⟩ = some (.int .i64 wk) := HAx3.out.cell rfl; clear hb3 hx3)
              | (go_at_call 18; (with_reducible refine Calls.mono (waiting_any _ _ b rb hb (q2) _ HDx3.out.I) ?_); rintro e x4 ⟨rfl, n4, hx4⟩; have hb4 : Below x3.heap.size x3 x4 := (by rw [hx4]; exact below_dn (Below.refl _ _) _); have HDx4 := Lib.hid (HDx3.out.below hb4); have HAx4 := Lib.hid (HAx3.out.below hb4 HAx3.out.lt); have hSx4 : x4.cell? ⟨A, 2, none⟩ = some (.int .i64 wk) := HAx4.out.cell rfl; clear hb4 hx4)
              | (go_at_call 28; (with_reducible refine Calls.mono (rwaiting_any _ _ b' hb' _ (q2) _ HDx4.out.R) ?_); rintro e x5 ⟨rfl, rfl⟩; skip)
              | (go_at_call 29; (with_reducible refine Calls.mono (held_at _ _ b rb hb (q2) wk zh HZ.out _ HDx4.out.I) ?_); rintro e x6 ⟨rfl, rfl⟩; skip)
              | (go_at_call 30; (with_reducible refine Calls.mono (rheld_at _ _ b' hb' _ (q2) wk zh HZ.out _ HDx4.out.R) ?_); rintro e x7 ⟨rfl, rfl⟩; skip)
              | (go_at_call 14; (with_reducible refine Calls.mono (left_any _ _ b rb hb (q2) _ HDx4.out.I) ?_); rintro e x8 ⟨rfl, n8, hx8⟩; have HDx8 : Hid (Duo W.heap.size lo lo' b rb hb b' hb' (qb) W x8 (q2) (q2)) := (by rw [hx8]; exact HDx4.out.dn _); have HAx8 : Hid (Blk x8 A #[.int .i64 kd, .slice la ll.length lc, .int .i64 wk] 48) := (by rw [hx8]; exact HAx4.out); have hSx8 : x8.cell? ⟨A, 2, none⟩ = some (.int .i64 wk) := HAx8.out.cell rfl; clear hx8)
              | (go_at_call 31; (with_reducible refine Calls.mono (rleft_any _ _ b' hb' _ (q2) _ HDx8.out.R) ?_); rintro e x9 ⟨rfl, rfl⟩; skip)
              | (go_at_call 15; (with_reducible refine Calls.mono (idle_any _ _ b rb hb (q2) _ HDx8.out.I) ?_); rintro e xa ⟨rfl, na, hxa⟩; have HDxa : Hid (Duo W.heap.size lo lo' b rb hb b' hb' (qb) W xa (q2) (q2)) := (by rw [hxa]; exact HDx8.out.dn _); have HAxa : Hid (Blk xa A #[.int .i64 kd, .slice la ll.length lc, .int .i64 wk] 48) := (by rw [hxa]; exact HAx8.out); have hSxa : xa.cell? ⟨A, 2, none⟩ = some (.int .i64 wk) := HAxa.out.cell rfl; clear hxa)
              | (go_at_call 32; (with_reducible refine Calls.mono (ridle_any _ _ b' hb' _ (q2) _ HDxa.out.R) ?_); rintro e xb ⟨rfl, rfl⟩; skip))
            go_wp2_with fail
            go_roundw
            · exact ⟨j + 1, q2, qb, by go_num, by omega, HQ2, HDxa⟩
            · simp only [intOf]; omega
        · have hjl : ¬ (j : Int) < (acts.length : Int) := by omega
          go_wp2_with fail
          go_ret
          exact ⟨rfl, HD.out.W⟩
theorem ingestScript_any (W : World) (n m : Int) (v : Value) (acts : List Act) (hv : Rw actK (· < W.heap.size) W v acts) :
    Calls Try.prog 5 #[.agg #[.int .i64 n, .int .i64 m], v] W fun e w' => e = .returned (.bool true) ∧ Below W.heap.size W w' :=
  ingestScript_of rcheck_any W n m v acts hv
end Go.Proofs.Ytiofhmlmimbngaa
