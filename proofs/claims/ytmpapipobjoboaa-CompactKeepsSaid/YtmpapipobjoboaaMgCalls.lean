/- The law MergeCalls: its walk. -/
import Derived.Test.YtmpapipobjoboaaMgSm
namespace Go.Proofs.Ytmpapipobjoboaa
open Go.RowKit

theorem allOf_sorted {rs : List (List Ent)} (h : ∀ r ∈ rs, Sorted r) : Sorted (allOf rs) := by
  have : ∀ (rs : List (List Ent)) (a : List Ent), Sorted a → (∀ r ∈ rs, Sorted r) → Sorted (rs.foldl two a) := by
    intro rs
    induction rs with
    | nil => intro a ha _; exact ha
    | cons r rs ih =>
      intro a ha h
      exact ih _ (two_spec a r ha (h r (List.mem_cons_self ..))).1 fun x hx => h x (List.mem_cons_of_mem _ hx)
  exact this rs [] List.Pairwise.nil h
theorem sorted_of_chk {rs : List (List Ent)} (h : chkR rs = 0) : Sorted (allOf rs) := allOf_sorted fun r hr => rowB_sorted.1 (chkR_iff.1 h r hr)

/-- A list, or none if the rows are none. -/
noncomputable def orNone (rs : List (List Ent)) (l : List Ent) : List Ent := if chkR rs = 0 then l else []
theorem orNone_eq {rs : List (List Ent)} {l l' : List Ent} (h : chkR rs = 0 → l = l') : orNone rs l = orNone rs l' := by
  unfold orNone
  by_cases hc : chkR rs = 0
  · rw [if_pos hc, if_pos hc, h hc]
  · rw [if_neg hc, if_neg hc]
theorem SeenPost.rw {F : Nat → Prop} {l : List Ent} {rs : List (List Ent)} {w w' : World} {x : Ending} (h : SeenPost F l rs w x w') :
    ∃ a c, x = .returned (.tuple #[.slice a (orNone rs l).length c, .int .i64 (chkR rs)]) ∧ Rw entK Any w' (.slice a (orNone rs l).length c) (orNone rs l) ∧ Below w.heap.size w w' := by
  obtain ⟨v', h1, h2, h3, h4⟩ := h
  have h5 : Rw entK Any w' v' (orNone rs l) := by
    unfold orNone
    by_cases hc : chkR rs = 0
    · rw [if_pos hc]; exact (h2 hc).any
    · rw [if_neg hc, h3 hc]; exact Rw.nil _ _ _
  obtain ⟨a, c, rfl⟩ := h5.isSlice
  exact ⟨a, c, h1, h5, h4⟩
theorem AllPost.rw {F : Nat → Prop} {rs : List (List Ent)} {w w' : World} {x : Ending} (h : AllPost F rs w x w') :
    ∃ a c, x = .returned (.tuple #[.slice a (refAll rs).length c, .int .i64 (chkR rs)]) ∧ Rw entK Any w' (.slice a (refAll rs).length c) (refAll rs) ∧ Below w.heap.size w w' := by
  obtain ⟨v', h1, h2, h4⟩ := h
  obtain ⟨a, c, rfl⟩ := h2.isSlice
  exact ⟨a, c, h1, h2.any, h4⟩
theorem seen_same (s : Int) (rs : List (List Ent)) : orNone rs (seenR s rs) = orNone rs (rseenGo s none (allOf rs)) := orNone_eq fun h => (rseen_seen s (sorted_of_chk h)).symm
theorem btw_same (f t : List UInt8) (s n : Int) (rs : List (List Ent)) : orNone rs (btw f t n (seenR s rs)) = orNone rs (lim n (rbtw f t s (allOf rs))) := orNone_eq fun h => by
  unfold btw rbtw
  rw [rseen_seen s (sorted_of_chk h)]
  rfl

set_option maxRecDepth 100000 in
set_option maxHeartbeats 8000000 in
theorem mergeCalls_any (W : World) (vr vf vt : Value) (rs : List (List Ent)) (f t : List UInt8) (s n : Int) (hr : Rw (rowK entK) (· < W.heap.size) W vr rs) (hn : Near rs) (hf : Bytes (· < W.heap.size) W vf f) (ht : Bytes (· < W.heap.size) W vt t) (hfl : f.length ≤ 140737488355328) (htl : t.length ≤ 140737488355328) :
    Calls Try.prog 8 #[vr, vf, vt, .int .u64 s, .int .i64 n] W fun e w' => e = .returned (.bool true) ∧ Below W.heap.size W w' := by
  obtain ⟨ra, rc, rfl⟩ := hr.isSlice
  obtain ⟨fa, fc, rfl⟩ := hf.isSlice
  obtain ⟨ta, tc, rfl⟩ := ht.isSlice
  have HR := Lib.hid hr.any
  have HNE := Lib.hid hn
  have HF := Lib.hid hf.any
  have HT := Lib.hid ht.any
  clear hr hn hf ht
  obtain ⟨m, hm⟩ : ∃ m, rs.length = m := ⟨_, rfl⟩
  have HM := Lib.hid hm
  rw [hm] at HR
  rw [hm]
  clear hm
  go_enter Try.func8, Try.ntmps8
  go_wp2_with fail
  refine Calls.mono (mlives_any _) ?_
  rintro _ w1 ⟨rfl, hb⟩
  have HW1 := Lib.hid hb
  have HR1 := Lib.hid (HR.out.below hb)
  clear hb
  go_wp2_with fail
  refine Calls.mono (small11_any Any _ rs _ HR1.out HNE.out) ?_
  rintro _ w2 ⟨b, rfl, hsm, hd⟩
  have HW2 : Hid (Below W.heap.size W w2) := HW1.out.trans ((below_drewN hd).mono HW1.out.size)
  have HSM := Lib.hid hsm
  clear hd hsm HR1 HW1
  cases b with
  | false =>
    go_wp2_with fail
    go_ret
    exact ⟨rfl, HW2.out⟩
  | true =>
    have HOK := Lib.hid ((HSM.out rfl).ok HNE.out)
    have hm20 : m ≤ 20 := by rw [← HM.out]; exact (HSM.out rfl).rows
    clear HSM
    by_cases hft : f.length + t.length ≤ 15000
    · have hft' : ¬ (15000 : Int) < (f.length : Int) + (t.length : Int) := by omega
      have HS1 := Lib.hid (seen_same s rs)
      have HS2 := Lib.hid (btw_same f t s n rs)
      have HR2 := Lib.hid (HR.out.below HW2.out)
      go_wp2_with fail
      -- All
      refine Calls.mono (own11_any Any _ rs _ HR2.out HOK.out) ?_
      rintro _ w3 ⟨v3, rfl, ho, hb⟩
      obtain ⟨o3, c3, rfl⟩ := ho.isSlice
      have HO3 := Lib.hid (orowRw ho.ge).any
      have HW3 : Hid (Below W.heap.size W w3) := HW2.out.trans (hb.mono HW2.out.size)
      clear ho hb HR2 HW2
      go_wp2_with fail
      refine Calls.mono (mall_any Any _ rs _ HO3.out HOK.out) ?_
      intro _ w4 hp
      obtain ⟨a4, c4, rfl, hl, hb⟩ := hp.rw
      have HW4 : Hid (Below W.heap.size W w4) := HW3.out.trans (hb.mono HW3.out.size)
      have HA := Lib.hid hl
      clear hl hb hp HO3 HW3
      go_wp2_with fail
      refine Calls.mono (rall_any Any _ rs _ (HR.out.below HW4.out) HOK.out) ?_
      intro _ w5 hp
      obtain ⟨a5, c5, rfl, hl, hb⟩ := hp.rw
      have HW5 : Hid (Below W.heap.size W w5) := HW4.out.trans (hb.mono HW4.out.size)
      have HA := Lib.hid (HA.out.below hb)
      have HB := Lib.hid hl
      clear hl hb hp HW4
      go_wp2_with fail
      -- Seen
      refine Calls.mono (own11_any Any _ rs _ (HR.out.below HW5.out) HOK.out) ?_
      rintro _ w6 ⟨v6, rfl, ho, hb⟩
      obtain ⟨o6, c6, rfl⟩ := ho.isSlice
      have HO6 := Lib.hid (orowRw ho.ge).any
      have HW6 : Hid (Below W.heap.size W w6) := HW5.out.trans (hb.mono HW5.out.size)
      have HA := Lib.hid (HA.out.below hb)
      have HB := Lib.hid (HB.out.below hb)
      clear ho hb HW5
      go_wp2_with fail
      refine Calls.mono (mseen_any Any _ rs s _ HO6.out HOK.out) ?_
      intro _ w7 hp
      obtain ⟨a7, c7, rfl, hl, hb⟩ := hp.rw
      have HW7 : Hid (Below W.heap.size W w7) := HW6.out.trans (hb.mono HW6.out.size)
      have HA := Lib.hid (HA.out.below hb)
      have HB := Lib.hid (HB.out.below hb)
      have HC := Lib.hid hl
      clear hl hb hp HO6 HW6
      go_wp2_with fail
      refine Calls.mono (rseen_any Any _ rs s _ (HR.out.below HW7.out) HOK.out) ?_
      intro _ w8 hp
      obtain ⟨a8, c8, rfl, hl, hb⟩ := hp.rw
      have HW8 : Hid (Below W.heap.size W w8) := HW7.out.trans (hb.mono HW7.out.size)
      have HA := Lib.hid (HA.out.below hb)
      have HB := Lib.hid (HB.out.below hb)
      have HC := Lib.hid (HC.out.below hb)
      have HD := Lib.hid hl
      clear hl hb hp HW7
      go_wp2_with fail
      -- Between
      refine Calls.mono (own11_any Any _ rs _ (HR.out.below HW8.out) HOK.out) ?_
      rintro _ w9 ⟨v9, rfl, ho, hb⟩
      obtain ⟨o9, c9, rfl⟩ := ho.isSlice
      have HO9 := Lib.hid (orowRw ho.ge).any
      have HW9 : Hid (Below W.heap.size W w9) := HW8.out.trans (hb.mono HW8.out.size)
      have HA := Lib.hid (HA.out.below hb)
      have HB := Lib.hid (HB.out.below hb)
      have HC := Lib.hid (HC.out.below hb)
      have HD := Lib.hid (HD.out.below hb)
      clear ho hb HW8
      go_wp2_with fail
      refine Calls.mono (mbetween_any Any Any Any _ _ _ rs f t s n _ HO9.out HOK.out (HF.out.below HW9.out) (HT.out.below HW9.out)) ?_
      intro _ w10 hp
      obtain ⟨a10, c10, rfl, hl, hb⟩ := hp.rw
      have HW10 : Hid (Below W.heap.size W w10) := HW9.out.trans (hb.mono HW9.out.size)
      have HA := Lib.hid (HA.out.below hb)
      have HB := Lib.hid (HB.out.below hb)
      have HC := Lib.hid (HC.out.below hb)
      have HD := Lib.hid (HD.out.below hb)
      have HE := Lib.hid hl
      clear hl hb hp HO9 HW9
      go_wp2_with fail
      refine Calls.mono (rbetween_any Any Any Any _ _ _ rs f t s n _ (HR.out.below HW10.out) HOK.out (HF.out.below HW10.out) (HT.out.below HW10.out)) ?_
      intro _ w11 hp
      obtain ⟨a11, c11, rfl, hl, hb⟩ := hp.rw
      have HW11 : Hid (Below W.heap.size W w11) := HW10.out.trans (hb.mono HW10.out.size)
      have HA := Lib.hid (HA.out.below hb)
      have HB := Lib.hid (HB.out.below hb)
      have HC := Lib.hid (HC.out.below hb)
      have HD := Lib.hid (HD.out.below hb)
      have HE := Lib.hid (HE.out.below hb)
      have HG := Lib.hid hl
      clear hl hb hp HW10
      rw [← HS1.out] at HD
      rw [← HS2.out] at HG
      rw [← HS1.out, ← HS2.out]
      clear HS1 HS2
      generalize refAll rs = l1 at *
      generalize orNone rs (seenR s rs) = l2 at *
      generalize orNone rs (btw f t n (seenR s rs)) = l3 at *
      generalize chkR rs = k at *
      go_wp2_with fail
      refine Calls.mono (kentries_same _ _ _ _ l1 _ HA.out HB.out) ?_
      rintro _ w12 ⟨rfl, hb⟩
      have HW12 : Hid (Below W.heap.size W w12) := HW11.out.trans (hb.mono HW11.out.size)
      have HC := Lib.hid (HC.out.below hb)
      have HD := Lib.hid (HD.out.below hb)
      have HE := Lib.hid (HE.out.below hb)
      have HG := Lib.hid (HG.out.below hb)
      clear hb HA HB HW11
      go_wp2_with fail
      refine Calls.mono (kentries_same _ _ _ _ l2 _ HC.out HD.out) ?_
      rintro _ w13 ⟨rfl, hb⟩
      have HW13 : Hid (Below W.heap.size W w13) := HW12.out.trans (hb.mono HW12.out.size)
      have HE := Lib.hid (HE.out.below hb)
      have HG := Lib.hid (HG.out.below hb)
      clear hb HC HD HW12
      go_wp2_with fail
      refine Calls.mono (kentries_same _ _ _ _ l3 _ HE.out HG.out) ?_
      rintro _ w14 ⟨rfl, hb⟩
      have HW14 : Hid (Below W.heap.size W w14) := HW13.out.trans (hb.mono HW13.out.size)
      clear hb HE HG HW13
      go_wp2_with fail
      go_loopw [23] (fun iv wr => ∃ (j : Nat), iv = .int .i64 (j : Int) ∧ j ≤ m ∧ Hid (Below W.heap.size W wr)) (fun iv _ => m - (intOf iv).toNat)
      case atStart => exact ⟨0, rfl, by omega, HW14.out⟩
      case round =>
        obtain ⟨j, rfl, hj, HBr⟩ := hrel
        by_cases hlt : j < m
        · have t1 : (j : Int) < (m : Int) := by omega
          have t3 : 0 ≤ (j : Int) := by omega
          have hl1 : j < rs.length := by rw [HM.out]; omega
          obtain ⟨ba, oa, capa, ea, _, hba, hca⟩ := rows_at (HR.out.below HBr.out) (by omega)
          obtain ⟨u, hu, hc⟩ := hca j hl1
          injection ea with e1 e2 e3
          subst e1 e3
          clear e2
          have HL := Lib.hid (HOK.out.len (List.getElem_mem hl1))
          obtain ⟨ua, uc, rfl⟩ := hu.isSlice
          have HU : Hid (Rw entK Any wr.drew (.slice ua rs[j].length uc) rs[j]) := hu.below (below_drew (Below.refl _ _))
          have HC : Hid (wr.drew.cell? ⟨ba, oa + j, none⟩ = some (.slice ua rs[j].length uc)) := hc
          have HZ : Hid (ba < wr.drew.heap.size) := hba
          clear hca hu hc hba
          generalize rs[j] = r at *
          obtain ⟨k, hk⟩ : ∃ k, chkE r = k := ⟨_, rfl⟩
          have HK := Lib.hid hk
          clear hk
          have HC1 : Hid (∀ x, Rw entK Any x (.slice ua r.length uc) r → Calls Try.prog 27 #[.slice ua r.length uc] x fun e w' => e = .returned (.int .i64 k) ∧ Below x.heap.size x w') := fun x hx => by
            have h5 := mcheck_any Any _ r x hx (Nat.le_trans HL.out (by decide))
            rw [HK.out] at h5
            exact h5
          have HC2 : Hid (∀ x, Rw entK Any x (.slice ua r.length uc) r → Calls Try.prog 37 #[.slice ua r.length uc] x fun e w' => e = .returned (.int .i64 k) ∧ Below x.heap.size x w') := fun x hx => by
            have h5 := rcheck_any Any _ r x hx (Nat.le_trans HL.out (by decide))
            rw [HK.out] at h5
            exact h5
          clear HK HL
          obtain ⟨q, hq⟩ : ∃ q, r.length = q := ⟨_, rfl⟩
          rw [hq] at HC HU HC1 HC2
          clear hq
          go_wp2_with fail
          go_region_held3 (fun w' => w'.cell? ⟨ba, oa + j, none⟩ = some (.slice ua q uc))
            (first | exact HC.out | exact (hbx1.cell (p := ⟨ba, oa + j, none⟩) HZ.out).trans HC.out | exact ((hbx1.trans (hbx2.mono hbx1.size)).cell (p := ⟨ba, oa + j, none⟩) HZ.out).trans HC.out)
            (first
              | (go_at_call 27; refine Calls.mono (HC1.out _ HU.out) ?_; rintro _ x1 ⟨rfl, hbx1⟩; skip)
              | (go_at_call 37; refine Calls.mono (HC2.out _ (HU.out.below hbx1)) ?_; rintro _ x2 ⟨rfl, hbx2⟩; skip))
          have HWx : Hid (Below W.heap.size W x2) := HBr.out.trans ((below_of_drew (hbx1.trans (hbx2.mono hbx1.size))).mono HBr.out.size)
          clear hbx1 hbx2 HC
          go_wp2_with fail
          go_roundw
          · exact ⟨j + 1, by go_num, by omega, HWx.out⟩
          · simp only [intOf]; omega
        · have t1 : ¬ (j : Int) < (m : Int) := by omega
          go_wp2_with fail
          go_ret
          exact ⟨rfl, HBr.out⟩
    · have hft' : (15000 : Int) < (f.length : Int) + (t.length : Int) := by omega
      go_wp2_with fail
      go_ret
      exact ⟨rfl, HW2.out⟩
end Go.Proofs.Ytmpapipobjoboaa
