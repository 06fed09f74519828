/- Chapter 19: New at a setup that may not be. -/
import Derived.Test.YtiofhmlmimbngaaRIntake
namespace Go.Proofs.Ytiofhmlmimbngaa
open Go.RowKit

abbrev badSetup (n m : Int) : Prop := n < 1 ∨ 64 < n ∨ m < 1 ∨ 8 < m

theorem new_bad (n m : Int) (h : badSetup n m) (w : World) :
    Calls Try.prog 7 #[.agg #[.int .i64 n, .int .i64 m]] w fun e w' => e = .returned (.tuple #[.pointer none, .int .i64 2]) ∧ Below w.heap.size w w' := by
  have hb : Below w.heap.size w (w.alloc (.cells #[.int .i64 n, .int .i64 m] 27)) := (Below.refl _ _).alloc (Nat.le_refl _) _
  go_enter Try.func7, Try.ntmps7
  go_wp2_with fail
  refine Calls.mono (checkSetup_any n m _) ?_
  rw [if_pos h]
  rintro e w2 ⟨rfl, hb2⟩
  have HW2 : Hid (Below w.heap.size w w2) := hb.trans (hb2.mono hb.size)
  clear hb hb2
  go_wp2_with fail
  go_ret2
  exact ⟨rfl, HW2.out⟩

theorem rnew_bad (n m : Int) (h : badSetup n m) (w : World) :
    Calls Try.prog 21 #[.agg #[.int .i64 n, .int .i64 m]] w fun e w' => e = .returned (.tuple #[.pointer none, .int .i64 2]) ∧ Below w.heap.size w w' := by
  have hb : Below w.heap.size w (w.alloc (.cells #[.int .i64 n, .int .i64 m] 27)) := (Below.refl _ _).alloc (Nat.le_refl _) _
  go_enter Try.func21, Try.ntmps21
  go_wp2_with fail
  refine Calls.mono (rcheckSetup_any n m _) ?_
  rw [if_pos h]
  rintro e w2 ⟨rfl, hb2⟩
  have HW2 : Hid (Below w.heap.size w w2) := hb.trans (hb2.mono hb.size)
  clear hb hb2
  go_wp2_with fail
  go_ret2
  exact ⟨rfl, HW2.out⟩

theorem check_at (n m : Int) (c : Int) (hc : c = if badSetup n m then 2 else 0) (w : World) :
    Calls Try.prog 22 #[.agg #[.int .i64 n, .int .i64 m]] w fun e w' => e = .returned (.int .i64 c) ∧ Below w.heap.size w w' := by
  subst hc; exact checkSetup_any n m w
theorem rcheck_at (n m : Int) (c : Int) (hc : c = if badSetup n m then 2 else 0) (w : World) :
    Calls Try.prog 23 #[.agg #[.int .i64 n, .int .i64 m]] w fun e w' => e = .returned (.int .i64 c) ∧ Below w.heap.size w w' := by
  subst hc; exact rcheckSetup_any n m w
end Go.Proofs.Ytiofhmlmimbngaa
