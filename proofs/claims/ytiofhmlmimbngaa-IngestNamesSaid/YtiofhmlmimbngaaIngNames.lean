/- The law IngestNames: its walk. -/
import Derived.Test.YtiofhmlmimbngaaIngA
import Derived.Test.YtiofhmlmimbngaaIngB
import Derived.Laws.IdiomStrings
import Derived.Lib.SmallJoins
namespace Go.Proofs.Ytiofhmlmimbngaa
open Go.RowKit

def nq3 : Iq := ⟨1, 2, 1, 2, [[Sp.one 3]], [[], [Sp.one 1, Sp.one 2]]⟩
def nq4 : Iq := ⟨1, 2, 1, 2, [[Sp.one 3]], [[], [Sp.one 2]]⟩
def nq5 : Iq := ⟨1, 2, 2, 2, [], [[Sp.one 3], [Sp.one 2]]⟩
def nq6 : Iq := ⟨1, 2, 2, 2, [], [[], [Sp.one 2]]⟩
def nq7 : Iq := ⟨1, 2, 2, 2, [], [[], []]⟩
theorem no3 : lq2.offer ([3].map Sp.one) = (0, nq3) := by unfold Iq.offer; rw [bad3]; rfl
theorem ns4 : nq3.step 1 = (2, Sp.one 1, 0, nq4) := rfl
theorem ns5 : nq4.step 0 = (1, Sp.zero, 0, nq5) := rfl
theorem ns6 : nq5.step 0 = (2, Sp.one 3, 0, nq6) := rfl
theorem ns7 : nq6.step 1 = (2, Sp.one 2, 0, nq7) := rfl
theorem ns8 : nq7.step 0 = (0, Sp.zero, 0, nq7) := rfl
theorem ns9 : nq7.step 2 = (0, Sp.zero, 2, nq7) := rfl
theorem nr1 : lq1.runnable = [0, 1] := by decide
theorem nr3 : nq3.runnable = [0, 1] := by decide
theorem nl7 : nq7.left = 0 := rfl

theorem conv2 (w : World) (B : Nat) (x y : Int) (hB : w.heap.size = B) (hx0 : 0 ≤ x) (hx1 : x ≤ 255) (hy0 : 0 ≤ y) (hy1 : y ≤ 255) :
    (convert 42 9 (.slice (some ⟨B, 0, none⟩) 2 2)).run Try.prog (w.alloc (.cells #[.int .u8 x, .int .u8 y] 5)) = .ok (.string ⟨#[UInt8.ofNat x.toNat, UInt8.ofNat y.toNat]⟩) (w.alloc (.cells #[.int .u8 x, .int .u8 y] 5)) := by
  subst hB
  have hk : Blk (w.alloc (.cells #[.int .u8 x, .int .u8 y] 5)) w.heap.size #[.int .u8 x, .int .u8 y] 5 := Blk.at_new rfl rfl
  refine run_convert_bytes_back (P := Try.prog) _ _ 9 5 ⟨w.heap.size, 0, none⟩ 2 [UInt8.ofNat x.toNat, UInt8.ofNat y.toNat] Try.underlying42 Try.underlying5 Try.underlying9 fun j hj => ?_
  rw [add_plain', Nat.zero_add]
  simp only [List.length_cons, List.length_nil] at hj
  rcases (by omega : j = 0 ∨ j = 1) with rfl | rfl
  · refine (hk.cell rfl).trans (congrArg some (int_eq ?_))
    show x = ((UInt8.ofNat x.toNat).toNat : Int)
    rw [UInt8.toNat_ofNat']; omega
  · refine (hk.cell rfl).trans (congrArg some (int_eq ?_))
    show y = ((UInt8.ofNat y.toNat).toNat : Int)
    rw [UInt8.toNat_ofNat']; omega

theorem Rw.wrote {α : Type} {K : Kind α} {F S : Nat → Prop} {w w' : World} {v : Value} {xs : List α} (h : Rw K F w v xs) (hw : Wrote S w w') (hS : ∀ k, F k → ¬ S k) : Rw K F w' v xs := h.keep fun k hk hF => hw.block k hk (hS k hF)

set_option maxRecDepth 100000 in
set_option maxHeartbeats 2000000 in
theorem ingestNames_any (w : World) :
    Calls Try.prog 3 #[] w fun e w' => e = .returned (.bool true) ∧ Below w.heap.size w w' := by
  have hc2 := conv2
  have hid1 : (Sp.one 1).id = 1 := rfl
  have hid2 : (Sp.one 2).id = 2 := rfl
  have hid3 : (Sp.one 3).id = 3 := rfl
  have hidz : Sp.zero.id = 0 := rfl
  go_enter Try.func3, Try.ntmps3
  go_wp2_with fail
  refine Calls.mono (new_good 1 2 (by decide) (by decide) (by decide) (by decide) w) ?_
  rintro e w1 ⟨b, rb, hb, rfl, hi, hb1⟩
  have HI1 : Hid (Intk w.heap.size w1.heap.size w1 b rb hb lq0) := hi
  have HW1 := Lib.hid hb1
  have HS : Hid (w.heap.size ≤ b ∧ w.heap.size ≤ rb ∧ w.heap.size ≤ hb) := ⟨hi.l1, hi.l2, hi.l3⟩
  have HU : Hid (b < w1.heap.size ∧ rb < w1.heap.size ∧ hb < w1.heap.size) := ⟨hi.u1, hi.u2, hi.u3⟩
  have HU : Hid (b < w1.heap.size ∧ rb < w1.heap.size ∧ hb < w1.heap.size) := ⟨hi.u1, hi.u2, hi.u3⟩
  have HU : Hid (b < w1.heap.size ∧ rb < w1.heap.size ∧ hb < w1.heap.size) := ⟨hi.u1, hi.u2, hi.u3⟩
  have HU : Hid (b < w1.heap.size ∧ rb < w1.heap.size ∧ hb < w1.heap.size) := ⟨hi.u1, hi.u2, hi.u3⟩
  have HU : Hid (b < w1.heap.size ∧ rb < w1.heap.size ∧ hb < w1.heap.size) := ⟨hi.u1, hi.u2, hi.u3⟩
  have HU : Hid (b < w1.heap.size ∧ rb < w1.heap.size ∧ hb < w1.heap.size) := ⟨hi.u1, hi.u2, hi.u3⟩
  have HU : Hid (b < w1.heap.size ∧ rb < w1.heap.size ∧ hb < w1.heap.size) := ⟨hi.u1, hi.u2, hi.u3⟩
  have HU : Hid (b < w1.heap.size ∧ rb < w1.heap.size ∧ hb < w1.heap.size) := ⟨hi.u1, hi.u2, hi.u3⟩
  have HU : Hid (b < w1.heap.size ∧ rb < w1.heap.size ∧ hb < w1.heap.size) := ⟨hi.u1, hi.u2, hi.u3⟩
  have HU : Hid (b < w1.heap.size ∧ rb < w1.heap.size ∧ hb < w1.heap.size) := ⟨hi.u1, hi.u2, hi.u3⟩
  clear hi hb1
  go_wp2_with fail
  refine Calls.mono (lives19_any w1) ?_
  rintro e w1' ⟨rfl, hb1'⟩
  have HI1' : Hid (Intk w.heap.size w1.heap.size w1' b rb hb lq0) := HI1.out.below hb1'
  have HW1' : Hid (Below w.heap.size w w1') := HW1.out.trans (hb1'.mono HW1.out.size)
  have HZ1' : Hid (w1.heap.size ≤ w1'.heap.size) := hb1'.size
  clear hb1' HW1 HI1
  go_wp2_with fail
  refine Calls.mono (one_any 1 w1') ?_
  rintro e w2 ⟨rfl, hb2⟩
  have HI2 : Hid (Intk w.heap.size w1.heap.size w2 b rb hb lq0) := HI1'.out.next_ hb2
  have HW2 : Hid (Below w.heap.size w w2) := HW1'.out.trans (hb2.mono HW1'.out.size)
  have HZ2 : Hid (w1.heap.size ≤ w2.heap.size) := Nat.le_trans HZ1'.out hb2.size
  clear hb2 HW1' HI1'
  go_wp2_with fail
  refine Calls.mono (one_any 2 w2) ?_
  rintro e w3 ⟨rfl, hb3⟩
  have HI3 : Hid (Intk w.heap.size w1.heap.size w3 b rb hb lq0) := HI2.out.next_ hb3
  have HW3 : Hid (Below w.heap.size w w3) := HW2.out.trans (hb3.mono HW2.out.size)
  have HZ3 : Hid (w1.heap.size ≤ w3.heap.size) := Nat.le_trans HZ2.out hb3.size
  clear hb3 HW2 HI2
  unfold spanCells
  go_wp2_with fail
  refine calls_gen fun w4 hw4 => ?_
  have HB4 : Hid (Below w3.heap.size w3 w4) := by rw [hw4]; first | exact Go.Joins.below_alloc1 _ _ | exact Go.Joins.below_alloc2 _ _ _ | exact Go.Joins.below_alloc3 _ _ _ _
  have HV4 : Hid (Rw spanK (fun k => k = w3.heap.size) w4 (.slice (some ⟨w3.heap.size, 0, none⟩) 2 2) ([1, 2].map Sp.one)) := by
    rw [hw4]; exact ones_rw [1, 2] rfl (Blk.at_new rfl rfl) (by decide)
  clear hw4
  have HI4 : Hid (Intk w.heap.size w1.heap.size w4 b rb hb lq0) := HI3.out.next_ HB4.out
  have HW4 : Hid (Below w.heap.size w w4) := HW3.out.trans (HB4.out.mono HW3.out.size)
  have HZ4 : Hid (w1.heap.size ≤ w4.heap.size) := Nat.le_trans HZ3.out HB4.out.size
  clear HI3 HW3 HB4
  refine Calls.mono (offer_any _ _ b rb hb lq0 _ _ _ w4 HV4.out (by decide) HI4.out (by decide)) ?_
  rw [lo1]
  rintro e w5 ⟨rfl, hi5, hw5⟩
  have HI5 : Hid (Intk w.heap.size w5.heap.size w5 b rb hb lq1) := hi5
  have HW5 : Hid (Below w.heap.size w w5) := Wrote.lo HW4.out hw5 (Nat.le_refl _) (by rintro k (rfl | rfl); exact HS.out.1; exact HS.out.2.1)
  have HZ5 : Hid (w1.heap.size ≤ w5.heap.size) := Nat.le_trans HZ4.out hw5.size
  clear hi5 hw5 HI4 HW4 HV4
  go_wp2_with fail
  refine Calls.mono (runnable_any _ _ b rb hb lq1 w5 HI5.out) ?_
  rw [nr1]
  rintro e w6 ⟨vr6, rfl, ho6, hb6⟩
  obtain ⟨ra6, rc6, rfl⟩ := ho6.isSlice
  have hle6 : w1.heap.size ≤ w5.heap.size := HZ5.out
  have HR6 : Hid (Rw intK (fun k => w1.heap.size ≤ k) w6 (.slice ra6 2 rc6) [0, 1]) := ho6.rows.mono fun _ _ h => Nat.le_trans hle6 h
  have HI6 : Hid (Intk w.heap.size w5.heap.size w6 b rb hb lq1) := HI5.out.next_ hb6
  have HW6 : Hid (Below w.heap.size w w6) := HW5.out.trans (hb6.mono HW5.out.size)
  have HZ6 : Hid (w1.heap.size ≤ w6.heap.size) := Nat.le_trans HZ5.out hb6.size
  clear ho6 hb6 hle6 HI5 HW5
  go_wp2_with fail
  refine Calls.mono (step_any _ _ b rb hb lq1 1 w6 HI6.out) ?_
  rw [ls1]
  rintro e w7 ⟨cs, rfl, ⟨vt, rfl, hvt⟩, hi7, hw7⟩
  have HI7 : Hid (Intk w.heap.size w7.heap.size w7 b rb hb lq2) := hi7
  have HW7 : Hid (Below w.heap.size w w7) := Wrote.lo HW6.out hw7 (Nat.le_refl _) (by rintro k (rfl | rfl); exact HS.out.1; exact HS.out.2.2)
  obtain ⟨ta7, tc7, rfl⟩ := hvt.isSlice
  have HZ7 : Hid (w1.heap.size ≤ w7.heap.size) := Nat.le_trans HZ6.out hw7.size
  have HR6 : Hid (Rw intK (fun k => w1.heap.size ≤ k) w7 (.slice ra6 2 rc6) [0, 1]) := HR6.out.wrote hw7 (by have := HU.out; intro k hk; omega)
  clear hi7 hw7 HI6 HW6 hvt
  unfold spanCells
  go_wp2_with fail
  refine Calls.mono (one_any 3 w7) ?_
  rintro e w8 ⟨rfl, hb8⟩
  have HI8 : Hid (Intk w.heap.size w7.heap.size w8 b rb hb lq2) := HI7.out.next_ hb8
  have HW8 : Hid (Below w.heap.size w w8) := HW7.out.trans (hb8.mono HW7.out.size)
  have HZ8 : Hid (w1.heap.size ≤ w8.heap.size) := Nat.le_trans HZ7.out hb8.size
  have HR6 : Hid (Rw intK (fun k => w1.heap.size ≤ k) w8 (.slice ra6 2 rc6) [0, 1]) := HR6.out.below hb8
  clear hb8 HW7 HI7
  unfold spanCells
  go_wp2_with fail
  refine calls_gen fun w9 hw9 => ?_
  have HB9 : Hid (Below w8.heap.size w8 w9) := by rw [hw9]; first | exact Go.Joins.below_alloc1 _ _ | exact Go.Joins.below_alloc2 _ _ _ | exact Go.Joins.below_alloc3 _ _ _ _
  have HV9 : Hid (Rw spanK (fun k => k = w8.heap.size) w9 (.slice (some ⟨w8.heap.size, 0, none⟩) 1 1) ([3].map Sp.one)) := by
    rw [hw9]; exact ones_rw [3] rfl (Blk.at_new rfl rfl) (by decide)
  clear hw9
  have HI9 : Hid (Intk w.heap.size w7.heap.size w9 b rb hb lq2) := HI8.out.next_ HB9.out
  have HW9 : Hid (Below w.heap.size w w9) := HW8.out.trans (HB9.out.mono HW8.out.size)
  have HZ9 : Hid (w1.heap.size ≤ w9.heap.size) := Nat.le_trans HZ8.out HB9.out.size
  have HR6 : Hid (Rw intK (fun k => w1.heap.size ≤ k) w9 (.slice ra6 2 rc6) [0, 1]) := HR6.out.below HB9.out
  clear HI8 HW8 HB9
  refine Calls.mono (offer_any _ _ b rb hb lq2 _ _ _ w9 HV9.out (by decide) HI9.out (by decide)) ?_
  rw [no3]
  rintro e w10 ⟨rfl, hi10, hw10⟩
  have HI10 : Hid (Intk w.heap.size w10.heap.size w10 b rb hb nq3) := hi10
  have HW10 : Hid (Below w.heap.size w w10) := Wrote.lo HW9.out hw10 (Nat.le_refl _) (by rintro k (rfl | rfl); exact HS.out.1; exact HS.out.2.1)
  have HZ10 : Hid (w1.heap.size ≤ w10.heap.size) := Nat.le_trans HZ9.out hw10.size
  have HR6 : Hid (Rw intK (fun k => w1.heap.size ≤ k) w10 (.slice ra6 2 rc6) [0, 1]) := HR6.out.wrote hw10 (by have := HU.out; intro k hk; omega)
  clear hi10 hw10 HI9 HW9 HV9
  go_wp2_with fail
  refine Calls.mono (runnable_any _ _ b rb hb nq3 w10 HI10.out) ?_
  rw [nr3]
  rintro e w11 ⟨vr11, rfl, ho11, hb11⟩
  obtain ⟨ra11, rc11, rfl⟩ := ho11.isSlice
  have hle11 : w1.heap.size ≤ w10.heap.size := HZ10.out
  have HR11 : Hid (Rw intK (fun k => w1.heap.size ≤ k) w11 (.slice ra11 2 rc11) [0, 1]) := ho11.rows.mono fun _ _ h => Nat.le_trans hle11 h
  have HI11 : Hid (Intk w.heap.size w10.heap.size w11 b rb hb nq3) := HI10.out.next_ hb11
  have HW11 : Hid (Below w.heap.size w w11) := HW10.out.trans (hb11.mono HW10.out.size)
  have HZ11 : Hid (w1.heap.size ≤ w11.heap.size) := Nat.le_trans HZ10.out hb11.size
  have HR6 : Hid (Rw intK (fun k => w1.heap.size ≤ k) w11 (.slice ra6 2 rc6) [0, 1]) := HR6.out.below hb11
  clear ho11 hb11 hle11 HI10 HW10
  go_wp2_with fail
  refine wp_loop_rounds 5 ?_
  rw [rounds_succ]
  go_wp2_with fail
  refine calls_gen fun w12 hw12 => ?_
  have HB12 : Hid (Below w11.heap.size w11 w12) := by rw [hw12]; first | exact Go.Joins.below_alloc1 _ _ | exact Go.Joins.below_alloc2 _ _ _ | exact Go.Joins.below_alloc3 _ _ _ _
  clear hw12
  have HI12 : Hid (Intk w.heap.size w10.heap.size w12 b rb hb nq3) := HI11.out.next_ HB12.out
  have HW12 : Hid (Below w.heap.size w w12) := HW11.out.trans (HB12.out.mono HW11.out.size)
  have HZ12 : Hid (w1.heap.size ≤ w12.heap.size) := Nat.le_trans HZ11.out HB12.out.size
  have HR6 : Hid (Rw intK (fun k => w1.heap.size ≤ k) w12 (.slice ra6 2 rc6) [0, 1]) := HR6.out.below HB12.out
  have HR11 : Hid (Rw intK (fun k => w1.heap.size ≤ k) w12 (.slice ra11 2 rc11) [0, 1]) := HR11.out.below HB12.out
  clear HI11 HW11 HB12
  refine Calls.mono (step_any _ _ b rb hb nq3 1 w12 HI12.out) ?_
  rw [ns4]
  rintro e w13 ⟨cs, rfl, ⟨vt, rfl, hvt⟩, hi13, hw13⟩
  have HI13 : Hid (Intk w.heap.size w13.heap.size w13 b rb hb nq4) := hi13
  have HW13 : Hid (Below w.heap.size w w13) := Wrote.lo HW12.out hw13 (Nat.le_refl _) (by rintro k (rfl | rfl); exact HS.out.1; exact HS.out.2.2)
  obtain ⟨ta13, tc13, rfl⟩ := hvt.isSlice
  have HZ13 : Hid (w1.heap.size ≤ w13.heap.size) := Nat.le_trans HZ12.out hw13.size
  have HR6 : Hid (Rw intK (fun k => w1.heap.size ≤ k) w13 (.slice ra6 2 rc6) [0, 1]) := HR6.out.wrote hw13 (by have := HU.out; intro k hk; omega)
  have HR11 : Hid (Rw intK (fun k => w1.heap.size ≤ k) w13 (.slice ra11 2 rc11) [0, 1]) := HR11.out.wrote hw13 (by have := HU.out; intro k hk; omega)
  clear hi13 hw13 HI12 HW12 hvt
  unfold spanCells
  go_wp2_with fail
  rw [rounds_succ]
  go_wp2_with fail
  refine calls_gen fun w14 hw14 => ?_
  have HB14 : Hid (Below w13.heap.size w13 w14) := by rw [hw14]; first | exact Go.Joins.below_alloc1 _ _ | exact Go.Joins.below_alloc2 _ _ _ | exact Go.Joins.below_alloc3 _ _ _ _
  clear hw14
  have HI14 : Hid (Intk w.heap.size w13.heap.size w14 b rb hb nq4) := HI13.out.next_ HB14.out
  have HW14 : Hid (Below w.heap.size w w14) := HW13.out.trans (HB14.out.mono HW13.out.size)
  have HZ14 : Hid (w1.heap.size ≤ w14.heap.size) := Nat.le_trans HZ13.out HB14.out.size
  have HR6 : Hid (Rw intK (fun k => w1.heap.size ≤ k) w14 (.slice ra6 2 rc6) [0, 1]) := HR6.out.below HB14.out
  have HR11 : Hid (Rw intK (fun k => w1.heap.size ≤ k) w14 (.slice ra11 2 rc11) [0, 1]) := HR11.out.below HB14.out
  clear HI13 HW13 HB14
  refine Calls.mono (step_any _ _ b rb hb nq4 0 w14 HI14.out) ?_
  rw [ns5]
  rintro e w15 ⟨cs, rfl, ⟨vt, rfl, hvt⟩, hi15, hw15⟩
  have HI15 : Hid (Intk w.heap.size w15.heap.size w15 b rb hb nq5) := hi15
  have HW15 : Hid (Below w.heap.size w w15) := Wrote.lo HW14.out hw15 (Nat.le_refl _) (by rintro k (rfl | rfl); exact HS.out.1; exact HS.out.2.2)
  obtain ⟨ta15, tc15, rfl⟩ := hvt.isSlice
  have HZ15 : Hid (w1.heap.size ≤ w15.heap.size) := Nat.le_trans HZ14.out hw15.size
  have HR6 : Hid (Rw intK (fun k => w1.heap.size ≤ k) w15 (.slice ra6 2 rc6) [0, 1]) := HR6.out.wrote hw15 (by have := HU.out; intro k hk; omega)
  have HR11 : Hid (Rw intK (fun k => w1.heap.size ≤ k) w15 (.slice ra11 2 rc11) [0, 1]) := HR11.out.wrote hw15 (by have := HU.out; intro k hk; omega)
  clear hi15 hw15 HI14 HW14 hvt
  unfold spanCells
  go_wp2_with fail
  rw [rounds_succ]
  go_wp2_with fail
  refine calls_gen fun w16 hw16 => ?_
  have HB16 : Hid (Below w15.heap.size w15 w16) := by rw [hw16]; first | exact Go.Joins.below_alloc1 _ _ | exact Go.Joins.below_alloc2 _ _ _ | exact Go.Joins.below_alloc3 _ _ _ _
  clear hw16
  have HI16 : Hid (Intk w.heap.size w15.heap.size w16 b rb hb nq5) := HI15.out.next_ HB16.out
  have HW16 : Hid (Below w.heap.size w w16) := HW15.out.trans (HB16.out.mono HW15.out.size)
  have HZ16 : Hid (w1.heap.size ≤ w16.heap.size) := Nat.le_trans HZ15.out HB16.out.size
  have HR6 : Hid (Rw intK (fun k => w1.heap.size ≤ k) w16 (.slice ra6 2 rc6) [0, 1]) := HR6.out.below HB16.out
  have HR11 : Hid (Rw intK (fun k => w1.heap.size ≤ k) w16 (.slice ra11 2 rc11) [0, 1]) := HR11.out.below HB16.out
  clear HI15 HW15 HB16
  refine Calls.mono (step_any _ _ b rb hb nq5 0 w16 HI16.out) ?_
  rw [ns6]
  rintro e w17 ⟨cs, rfl, ⟨vt, rfl, hvt⟩, hi17, hw17⟩
  have HI17 : Hid (Intk w.heap.size w17.heap.size w17 b rb hb nq6) := hi17
  have HW17 : Hid (Below w.heap.size w w17) := Wrote.lo HW16.out hw17 (Nat.le_refl _) (by rintro k (rfl | rfl); exact HS.out.1; exact HS.out.2.2)
  obtain ⟨ta17, tc17, rfl⟩ := hvt.isSlice
  have HZ17 : Hid (w1.heap.size ≤ w17.heap.size) := Nat.le_trans HZ16.out hw17.size
  have HR6 : Hid (Rw intK (fun k => w1.heap.size ≤ k) w17 (.slice ra6 2 rc6) [0, 1]) := HR6.out.wrote hw17 (by have := HU.out; intro k hk; omega)
  have HR11 : Hid (Rw intK (fun k => w1.heap.size ≤ k) w17 (.slice ra11 2 rc11) [0, 1]) := HR11.out.wrote hw17 (by have := HU.out; intro k hk; omega)
  clear hi17 hw17 HI16 HW16 hvt
  unfold spanCells
  go_wp2_with fail
  rw [rounds_succ]
  go_wp2_with fail
  refine calls_gen fun w18 hw18 => ?_
  have HB18 : Hid (Below w17.heap.size w17 w18) := by rw [hw18]; first | exact Go.Joins.below_alloc1 _ _ | exact Go.Joins.below_alloc2 _ _ _ | exact Go.Joins.below_alloc3 _ _ _ _
  clear hw18
  have HI18 : Hid (Intk w.heap.size w17.heap.size w18 b rb hb nq6) := HI17.out.next_ HB18.out
  have HW18 : Hid (Below w.heap.size w w18) := HW17.out.trans (HB18.out.mono HW17.out.size)
  have HZ18 : Hid (w1.heap.size ≤ w18.heap.size) := Nat.le_trans HZ17.out HB18.out.size
  have HR6 : Hid (Rw intK (fun k => w1.heap.size ≤ k) w18 (.slice ra6 2 rc6) [0, 1]) := HR6.out.below HB18.out
  have HR11 : Hid (Rw intK (fun k => w1.heap.size ≤ k) w18 (.slice ra11 2 rc11) [0, 1]) := HR11.out.below HB18.out
  clear HI17 HW17 HB18
  refine Calls.mono (step_any _ _ b rb hb nq6 1 w18 HI18.out) ?_
  rw [ns7]
  rintro e w19 ⟨cs, rfl, ⟨vt, rfl, hvt⟩, hi19, hw19⟩
  have HI19 : Hid (Intk w.heap.size w19.heap.size w19 b rb hb nq7) := hi19
  have HW19 : Hid (Below w.heap.size w w19) := Wrote.lo HW18.out hw19 (Nat.le_refl _) (by rintro k (rfl | rfl); exact HS.out.1; exact HS.out.2.2)
  obtain ⟨ta19, tc19, rfl⟩ := hvt.isSlice
  have HZ19 : Hid (w1.heap.size ≤ w19.heap.size) := Nat.le_trans HZ18.out hw19.size
  have HR6 : Hid (Rw intK (fun k => w1.heap.size ≤ k) w19 (.slice ra6 2 rc6) [0, 1]) := HR6.out.wrote hw19 (by have := HU.out; intro k hk; omega)
  have HR11 : Hid (Rw intK (fun k => w1.heap.size ≤ k) w19 (.slice ra11 2 rc11) [0, 1]) := HR11.out.wrote hw19 (by have := HU.out; intro k hk; omega)
  clear hi19 hw19 HI18 HW18 hvt
  unfold spanCells
  go_wp2_with fail
  rw [rounds_succ]
  go_wp2_with fail
  refine calls_gen fun w20 hw20 => ?_
  have HB20 : Hid (Below w19.heap.size w19 w20) := by rw [hw20]; first | exact Go.Joins.below_alloc1 _ _ | exact Go.Joins.below_alloc2 _ _ _ | exact Go.Joins.below_alloc3 _ _ _ _
  clear hw20
  have HI20 : Hid (Intk w.heap.size w19.heap.size w20 b rb hb nq7) := HI19.out.next_ HB20.out
  have HW20 : Hid (Below w.heap.size w w20) := HW19.out.trans (HB20.out.mono HW19.out.size)
  have HZ20 : Hid (w1.heap.size ≤ w20.heap.size) := Nat.le_trans HZ19.out HB20.out.size
  have HR6 : Hid (Rw intK (fun k => w1.heap.size ≤ k) w20 (.slice ra6 2 rc6) [0, 1]) := HR6.out.below HB20.out
  have HR11 : Hid (Rw intK (fun k => w1.heap.size ≤ k) w20 (.slice ra11 2 rc11) [0, 1]) := HR11.out.below HB20.out
  clear HI19 HW19 HB20
  refine Calls.mono (step_any _ _ b rb hb nq7 0 w20 HI20.out) ?_
  rw [ns8]
  rintro e w21 ⟨cs, rfl, ⟨vt, rfl, hvt⟩, hi21, hw21⟩
  have HI21 : Hid (Intk w.heap.size w21.heap.size w21 b rb hb nq7) := hi21
  have HW21 : Hid (Below w.heap.size w w21) := Wrote.lo HW20.out hw21 (Nat.le_refl _) (by rintro k (rfl | rfl); exact HS.out.1; exact HS.out.2.2)
  obtain ⟨ta21, tc21, rfl⟩ := hvt.isSlice
  have HZ21 : Hid (w1.heap.size ≤ w21.heap.size) := Nat.le_trans HZ20.out hw21.size
  have HR6 : Hid (Rw intK (fun k => w1.heap.size ≤ k) w21 (.slice ra6 2 rc6) [0, 1]) := HR6.out.wrote hw21 (by have := HU.out; intro k hk; omega)
  have HR11 : Hid (Rw intK (fun k => w1.heap.size ≤ k) w21 (.slice ra11 2 rc11) [0, 1]) := HR11.out.wrote hw21 (by have := HU.out; intro k hk; omega)
  clear hi21 hw21 HI20 HW20 hvt
  unfold spanCells
  go_wp2_with fail
  refine calls_gen fun w22 hw22 => ?_
  have HB22 : Hid (Below w21.heap.size w21 w22) := by rw [hw22]; first | exact Go.Joins.below_alloc1 _ _ | exact Go.Joins.below_alloc2 _ _ _ | exact Go.Joins.below_alloc3 _ _ _ _
  clear hw22
  have HI22 : Hid (Intk w.heap.size w21.heap.size w22 b rb hb nq7) := HI21.out.next_ HB22.out
  have HW22 : Hid (Below w.heap.size w w22) := HW21.out.trans (HB22.out.mono HW21.out.size)
  have HZ22 : Hid (w1.heap.size ≤ w22.heap.size) := Nat.le_trans HZ21.out HB22.out.size
  have HR6 : Hid (Rw intK (fun k => w1.heap.size ≤ k) w22 (.slice ra6 2 rc6) [0, 1]) := HR6.out.below HB22.out
  have HR11 : Hid (Rw intK (fun k => w1.heap.size ≤ k) w22 (.slice ra11 2 rc11) [0, 1]) := HR11.out.below HB22.out
  clear HI21 HW21 HB22
  refine Calls.mono (step_any _ _ b rb hb nq7 2 w22 HI22.out) ?_
  rw [ns9]
  rintro e w23 ⟨cs, rfl, ⟨vt, rfl, hvt⟩, hi23, hw23⟩
  have HI23 : Hid (Intk w.heap.size w23.heap.size w23 b rb hb nq7) := hi23
  have HW23 : Hid (Below w.heap.size w w23) := Wrote.lo HW22.out hw23 (Nat.le_refl _) (by rintro k (rfl | rfl); exact HS.out.1; exact HS.out.2.2)
  obtain ⟨ta23, tc23, rfl⟩ := hvt.isSlice
  have HZ23 : Hid (w1.heap.size ≤ w23.heap.size) := Nat.le_trans HZ22.out hw23.size
  have HR6 : Hid (Rw intK (fun k => w1.heap.size ≤ k) w23 (.slice ra6 2 rc6) [0, 1]) := HR6.out.wrote hw23 (by have := HU.out; intro k hk; omega)
  have HR11 : Hid (Rw intK (fun k => w1.heap.size ≤ k) w23 (.slice ra11 2 rc11) [0, 1]) := HR11.out.wrote hw23 (by have := HU.out; intro k hk; omega)
  clear hi23 hw23 HI22 HW22 hvt
  unfold spanCells
  go_wp2_with fail
  rw [show (({ data := #[] } ++ { data := #[50, 49] } ++ { data := #[49, 48] } ++ { data := #[50, 51] } ++ { data := #[50, 50] } : ByteArray)) = ⟨#[50, 49, 49, 48, 50, 51, 50, 50]⟩ by decide +kernel]
  refine calls_gen fun w24 hw24 => ?_
  have HB24 : Hid (Below w23.heap.size w23 w24) := by rw [hw24]; first | exact Go.Joins.below_alloc1 _ _ | exact Go.Joins.below_alloc2 _ _ _ | exact Go.Joins.below_alloc3 _ _ _ _
  have HV24 : Hid (Rw intK (fun k => k = w23.heap.size + 1) w24 (.slice (some ⟨w23.heap.size + 1, 0, none⟩) 2 2) [0, 1]) := by
    rw [hw24]; exact ints_lit [0, 1] rfl (Blk.at_new (by simp) rfl) (by decide)
  clear hw24
  have HI24 : Hid (Intk w.heap.size w23.heap.size w24 b rb hb nq7) := HI23.out.next_ HB24.out
  have HW24 : Hid (Below w.heap.size w w24) := HW23.out.trans (HB24.out.mono HW23.out.size)
  have HZ24 : Hid (w1.heap.size ≤ w24.heap.size) := Nat.le_trans HZ23.out HB24.out.size
  have HR6 : Hid (Rw intK (fun k => w1.heap.size ≤ k) w24 (.slice ra6 2 rc6) [0, 1]) := HR6.out.below HB24.out
  have HR11 : Hid (Rw intK (fun k => w1.heap.size ≤ k) w24 (.slice ra11 2 rc11) [0, 1]) := HR11.out.below HB24.out
  clear HI23 HW23 HB24
  refine Calls.mono (ints_same _ _ _ _ [0, 1] w24 HR6.out HV24.out) ?_
  rintro e w25 ⟨rfl, nd25, hd25⟩
  have hb25 : Below w24.heap.size w24 w25 := by rw [hd25]; exact below_dn (Below.refl _ _) _
  have HI25 : Hid (Intk w.heap.size w23.heap.size w25 b rb hb nq7) := HI24.out.next_ hb25
  have HW25 : Hid (Below w.heap.size w w25) := HW24.out.trans (hb25.mono HW24.out.size)
  have HZ25 : Hid (w1.heap.size ≤ w25.heap.size) := Nat.le_trans HZ24.out hb25.size
  have HR6 : Hid (Rw intK (fun k => w1.heap.size ≤ k) w25 (.slice ra6 2 rc6) [0, 1]) := HR6.out.below hb25
  have HR11 : Hid (Rw intK (fun k => w1.heap.size ≤ k) w25 (.slice ra11 2 rc11) [0, 1]) := HR11.out.below hb25
  clear hb25 hd25 HI24 HW24 HV24
  go_wp2_with fail
  refine calls_gen fun w26 hw26 => ?_
  have HB26 : Hid (Below w25.heap.size w25 w26) := by rw [hw26]; first | exact Go.Joins.below_alloc1 _ _ | exact Go.Joins.below_alloc2 _ _ _ | exact Go.Joins.below_alloc3 _ _ _ _
  have HV26 : Hid (Rw intK (fun k => k = w25.heap.size) w26 (.slice (some ⟨w25.heap.size, 0, none⟩) 2 2) [0, 1]) := by
    rw [hw26]; exact ints_lit [0, 1] rfl (Blk.at_new (by simp) rfl) (by decide)
  clear hw26
  have HI26 : Hid (Intk w.heap.size w23.heap.size w26 b rb hb nq7) := HI25.out.next_ HB26.out
  have HW26 : Hid (Below w.heap.size w w26) := HW25.out.trans (HB26.out.mono HW25.out.size)
  have HZ26 : Hid (w1.heap.size ≤ w26.heap.size) := Nat.le_trans HZ25.out HB26.out.size
  have HR6 : Hid (Rw intK (fun k => w1.heap.size ≤ k) w26 (.slice ra6 2 rc6) [0, 1]) := HR6.out.below HB26.out
  have HR11 : Hid (Rw intK (fun k => w1.heap.size ≤ k) w26 (.slice ra11 2 rc11) [0, 1]) := HR11.out.below HB26.out
  clear HI25 HW25 HB26
  refine Calls.mono (ints_same _ _ _ _ [0, 1] w26 HR11.out HV26.out) ?_
  rintro e w27 ⟨rfl, nd27, hd27⟩
  have hb27 : Below w26.heap.size w26 w27 := by rw [hd27]; exact below_dn (Below.refl _ _) _
  have HI27 : Hid (Intk w.heap.size w23.heap.size w27 b rb hb nq7) := HI26.out.next_ hb27
  have HW27 : Hid (Below w.heap.size w w27) := HW26.out.trans (hb27.mono HW26.out.size)
  have HZ27 : Hid (w1.heap.size ≤ w27.heap.size) := Nat.le_trans HZ26.out hb27.size
  have HR6 : Hid (Rw intK (fun k => w1.heap.size ≤ k) w27 (.slice ra6 2 rc6) [0, 1]) := HR6.out.below hb27
  have HR11 : Hid (Rw intK (fun k => w1.heap.size ≤ k) w27 (.slice ra11 2 rc11) [0, 1]) := HR11.out.below hb27
  clear hb27 hd27 HI26 HW26 HV26
  go_wp2_with fail
  refine Calls.mono (left_any _ _ b rb hb nq7 w27 HI27.out) ?_
  rw [nl7]
  rintro e wl ⟨rfl, ndl, hdl⟩
  have hbl : Below w27.heap.size w27 wl := by rw [hdl]; exact below_dn (Below.refl _ _) _
  have HIl : Hid (Intk w.heap.size w23.heap.size wl b rb hb nq7) := HI27.out.next_ hbl
  have HWl : Hid (Below w.heap.size w wl) := HW27.out.trans (hbl.mono HW27.out.size)
  clear hbl hdl
  go_wp2_with fail
  refine Calls.mono (idle_any _ _ b rb hb nq7 wl HIl.out) ?_
  rw [nl7]
  rintro e wi ⟨rfl, ndi, hdi⟩
  have HWi : Hid (Below w.heap.size w wi) := by rw [hdi]; exact below_dn HWl.out _
  clear hdi
  rw [show decide (0 = 0) = true from rfl]
  go_wp2_with fail
  go_ret
  exact ⟨rfl, HWi.out⟩
end Go.Proofs.Ytiofhmlmimbngaa
