/- Chapter 19's law: its helpers one and lives. -/
import Derived.Test.YtiofhmlmimbngaaIntakeH
namespace Go.Proofs.Ytiofhmlmimbngaa
open Go.RowKit

def Sp.one (id : Int) : Sp.T := ⟨0, 1, id, 0, ⟨#[97]⟩, ⟨#[120]⟩, 0, 0, 0, false, []⟩

theorem one_any (id : Int) (w : World) :
    Calls Try.prog 10 #[.int .u64 id] w fun e w' => e = .returned (.agg (spanCells (Sp.one id) (.slice none 0 0)).toArray) ∧ Below w.heap.size w w' := by
  go_enter Try.func10, Try.ntmps10
  go_wp2_with fail
  refine bodyPost_ret (results_cell1 (p := 2) rfl _ _ w.heap.size 35 (spanCells (Sp.one id) (.slice none 0 0)).toArray _ rfl (Blk.at_new rfl rfl) Try.underlying35 rfl (by kernel_rfl)) rfl ?_
  exact ⟨rfl, (Below.refl _ _).alloc (Nat.le_refl _) _⟩

theorem ones_rw {w : World} {b : Nat} {c : Array Value} (ids : List Int) (hc : c = (ids.flatMap fun i => spanCells (Sp.one i) (.slice none 0 0)).toArray) (h : Blk w b c 35) (hm : ids.length ≤ 1000) :
    Rw spanK (fun k => k = b) w (.slice (some ⟨b, 0, none⟩) ids.length ids.length) (ids.map Sp.one) := by
  subst hc
  have he : ∀ (ids : List Int), Els spanK (fun k => k = b) w (ids.flatMap fun i => spanCells (Sp.one i) (.slice none 0 0)) (ids.map Sp.one) := by
    intro ids
    induction ids with
    | nil => exact rfl
    | cons i is ih => exact ⟨⟨.slice none 0 0, rfl, Rw.nil _ _ _⟩, ih⟩
  refine ⟨_, ?_, he ids⟩
  refine ⟨_, _, by rw [List.length_map], Nat.le_of_eq (by rw [List.length_map]), by simp only [maxLen]; omega, by simp, (he ids).len, fun j u hj => ⟨_, rfl, rfl, ?_⟩⟩
  rw [add_plain', Nat.zero_add]
  exact h.cell (by simpa using hj)

theorem bad12 : Sp.bad ([1, 2].map Sp.one) = 0 := by kernel_rfl
theorem bad3 : Sp.bad ([3].map Sp.one) = 0 := by kernel_rfl

def lq0 : Iq := ⟨1, 2, 0, 0, [], [[], []]⟩
def lq1 : Iq := ⟨1, 2, 0, 1, [[Sp.one 1, Sp.one 2]], [[], []]⟩
def lq2 : Iq := ⟨1, 2, 1, 1, [], [[], [Sp.one 1, Sp.one 2]]⟩
def lq3 : Iq := ⟨1, 2, 1, 1, [], [[], [Sp.one 2]]⟩
theorem lo1 : lq0.offer ([1, 2].map Sp.one) = (0, lq1) := by unfold Iq.offer; rw [bad12]; rfl
theorem lo2 : lq1.offer ([3].map Sp.one) = (13, lq1) := by unfold Iq.offer; rw [bad3]; rfl
theorem ls1 : lq1.step 1 = (1, Sp.zero, 0, lq2) := rfl
theorem ls2 : lq2.step 1 = (2, Sp.one 1, 0, lq3) := rfl

theorem Wrote.lo {S : Nat → Prop} {B : Nat} {w w1 w2 : World} (hb : Below B w w1) (h : Wrote S w1 w2) (hB : B ≤ w.heap.size) (hS : ∀ k, S k → B ≤ k) : Below B w w2 :=
  hb.trans (h.below (Nat.le_trans hB hb.size) hS)

set_option maxRecDepth 100000 in
set_option maxHeartbeats 1000000 in
theorem lives19_any (w : World) :
    Calls Try.prog 8 #[] w fun e w' => e = .returned (.bool true) ∧ Below w.heap.size w w' := by
  go_enter Try.func8, Try.ntmps8
  go_wp2_with fail
  refine Calls.mono (new_good (X := NoX) 1 2 (by decide) (by decide) (by decide) (by decide) w) ?_
  rintro e w1 ⟨b, rb, hb, rfl, hi, hb1⟩
  have HI1 : Hid (Intk NoX w.heap.size w1.heap.size w1 b rb hb lq0) := hi
  have HW1 := Lib.hid hb1
  have HS : Hid (w.heap.size ≤ b ∧ w.heap.size ≤ rb ∧ w.heap.size ≤ hb) := ⟨hi.l1, hi.l2, hi.l3⟩
  clear hi hb1
  go_wp2_with fail
  refine Calls.mono (one_any 1 w1) ?_
  rintro e w2 ⟨rfl, hb2⟩
  have HI2 : Hid (Intk NoX w.heap.size w1.heap.size w2 b rb hb lq0) := HI1.out.below hb2
  have HW2 : Hid (Below w.heap.size w w2) := HW1.out.trans (hb2.mono HW1.out.size)
  clear hb2 HW1 HI1
  go_wp2_with fail
  refine Calls.mono (one_any 2 w2) ?_
  rintro e w3 ⟨rfl, hb3⟩
  have HI3 : Hid (Intk NoX w.heap.size w1.heap.size w3 b rb hb lq0) := HI2.out.next_ hb3
  have HW3 : Hid (Below w.heap.size w w3) := HW2.out.trans (hb3.mono HW2.out.size)
  clear hb3 HW2 HI2
  unfold spanCells
  go_wp2_with fail
  refine calls_gen fun w4 hw4 => ?_
  have HB4 : Hid (Below w3.heap.size w3 w4) := by rw [hw4]; exact (Below.refl _ _).alloc (Nat.le_refl _) _
  have HV4 : Hid (Rw spanK (fun k => k = w3.heap.size) w4 (.slice (some ⟨w3.heap.size, 0, none⟩) 2 2) ([1, 2].map Sp.one)) := by
    rw [hw4]; exact ones_rw [1, 2] rfl (Blk.at_new rfl rfl) (by decide)
  clear hw4
  have HI4 : Hid (Intk NoX w.heap.size w1.heap.size w4 b rb hb lq0) := HI3.out.next_ HB4.out
  have HW4 : Hid (Below w.heap.size w w4) := HW3.out.trans (HB4.out.mono HW3.out.size)
  clear HI3 HB4
  refine Calls.mono (offer_any _ _ b rb hb lq0 _ _ _ w4 HV4.out (by decide) HI4.out (by decide) (fun k hk => hk.elim)) ?_
  rw [lo1]
  rintro e w5 ⟨rfl, hi5, hw5⟩
  have HI5 : Hid (Intk NoX w.heap.size w5.heap.size w5 b rb hb lq1) := hi5
  have HW5 : Hid (Below w.heap.size w w5) := Wrote.lo HW4.out hw5 (Nat.le_refl _) (by rintro k (rfl | rfl); exact HS.out.1; exact HS.out.2.1)
  clear hi5 hw5 HI4 HW4 HV4
  go_wp2_with fail
  refine Calls.mono (one_any 3 w5) ?_
  rintro e w6 ⟨rfl, hb6⟩
  have HI6 : Hid (Intk NoX w.heap.size w5.heap.size w6 b rb hb lq1) := HI5.out.below hb6
  have HW6 : Hid (Below w.heap.size w w6) := HW5.out.trans (hb6.mono HW5.out.size)
  clear hb6 HW5 HI5
  unfold spanCells
  go_wp2_with fail
  refine calls_gen fun w7 hw7 => ?_
  have HB7 : Hid (Below w6.heap.size w6 w7) := by rw [hw7]; exact (Below.refl _ _).alloc (Nat.le_refl _) _
  have HV7 : Hid (Rw spanK (fun k => k = w6.heap.size) w7 (.slice (some ⟨w6.heap.size, 0, none⟩) 1 1) ([3].map Sp.one)) := by
    rw [hw7]; exact ones_rw [3] rfl (Blk.at_new rfl rfl) (by decide)
  clear hw7
  have HI7 : Hid (Intk NoX w.heap.size w5.heap.size w7 b rb hb lq1) := HI6.out.next_ HB7.out
  have HW7 : Hid (Below w.heap.size w w7) := HW6.out.trans (HB7.out.mono HW6.out.size)
  clear HI6 HB7
  refine Calls.mono (offer_any _ _ b rb hb lq1 _ _ _ w7 HV7.out (by decide) HI7.out (by decide) (fun k hk => hk.elim)) ?_
  rw [lo2]
  rintro e w8 ⟨rfl, hi8, hw8⟩
  have HI8 : Hid (Intk NoX w.heap.size w8.heap.size w8 b rb hb lq1) := hi8
  have HW8 : Hid (Below w.heap.size w w8) := Wrote.lo HW7.out hw8 (Nat.le_refl _) (by rintro k (rfl | rfl); exact HS.out.1; exact HS.out.2.1)
  clear hi8 hw8 HI7 HW7 HV7
  go_wp2_with fail
  refine Calls.mono (step_any _ _ b rb hb lq1 1 w8 HI8.out) ?_
  rw [ls1]
  rintro e w9 ⟨cs, rfl, ⟨vt, rfl, hvt⟩, hi9, hw9⟩
  have HI9 : Hid (Intk NoX w.heap.size w9.heap.size w9 b rb hb lq2) := hi9
  have HW9 : Hid (Below w.heap.size w w9) := Wrote.lo HW8.out hw9 (Nat.le_refl _) (by rintro k (rfl | rfl); exact HS.out.1; exact HS.out.2.2)
  obtain ⟨ta, tc, rfl⟩ := hvt.isSlice
  clear hi9 hw9 HI8 HW8 hvt
  unfold spanCells
  go_wp2_with fail
  refine calls_gen fun w10 hw10 => ?_
  have HB10 : Hid (Below w9.heap.size w9 w10) := by rw [hw10]; exact (Below.refl _ _).alloc (Nat.le_refl _) _
  clear hw10
  have HI10 : Hid (Intk NoX w.heap.size w9.heap.size w10 b rb hb lq2) := HI9.out.next_ HB10.out
  have HW10 : Hid (Below w.heap.size w w10) := HW9.out.trans (HB10.out.mono HW9.out.size)
  clear HI9 HB10 HW9
  refine Calls.mono (step_any _ _ b rb hb lq2 1 w10 HI10.out) ?_
  rw [ls2]
  rintro e w11 ⟨cs, rfl, ⟨vt, rfl, hvt⟩, hi11, hw11⟩
  have HW11 : Hid (Below w.heap.size w w11) := Wrote.lo HW10.out hw11 (Nat.le_refl _) (by rintro k (rfl | rfl); exact HS.out.1; exact HS.out.2.2)
  obtain ⟨ta, tc, rfl⟩ := hvt.isSlice
  clear hi11 hw11 HI10 HW10 hvt
  have hid : (Sp.one 1).id = 1 := rfl
  unfold spanCells
  go_wp2_with fail
  go_ret
  exact ⟨rfl, HW11.out.alloc HW11.out.size _⟩
end Go.Proofs.Ytiofhmlmimbngaa
