/- kit.Pick. -/
import Derived.Test.YtiofhmlmimbngaaRows
import Derived.Test.YtiofhmlmimbngaaMem
namespace Go.Proofs.Ytiofhmlmimbngaa
open Go.RowKit

/-- A place below m. -/
def Below.Pick (m : Nat) (w : World) (e : Ending) (w' : World) : Prop := ∃ k : Nat, k < m ∧ e = .returned (.int .i64 (k : Int)) ∧ w = w'

theorem pick_mk {m : Nat} {w : World} {x : Int} (h0 : 0 ≤ x) (h1 : x < (m : Int)) : Below.Pick m w (.returned (.int .i64 x)) w :=
  ⟨x.toNat, by omega, ret_int (by omega), rfl⟩

/-- Pick tells a place below m. -/
theorem pick_any (n : Int) (m : Nat) (w : World) (hn0 : -9223372036854775808 ≤ n) (hn1 : n ≤ 9223372036854775807) (hm0 : 0 < m) (hm1 : m ≤ 1000000000000) :
    Calls Try.prog 17 #[.int .i64 n, .int .i64 (m : Int)] w (Below.Pick m w) := by
  by_cases h0 : 0 ≤ n
  · have hr0 : 0 ≤ n % (m : Int) := Int.emod_nonneg _ (by omega)
    have hr1 : n % (m : Int) < (m : Int) := Int.emod_lt_of_pos _ (by omega)
    have hd : decide (n % (m : Int) < 0) = false := by simp; omega
    go_enter Try.func17, Try.ntmps17
    go_wp2
    go_ret
    exact pick_mk hr0 hr1
  · have hr0 : n.tmod (m : Int) ≤ 0 := by
      have h := Int.tmod_nonneg (m : Int) (show 0 ≤ -n by omega)
      rw [Int.neg_tmod] at h; omega
    have hr1 : -(m : Int) < n.tmod (m : Int) := by
      have h := Int.tmod_lt_of_pos (-n) (show (0 : Int) < (m : Int) by omega)
      rw [Int.neg_tmod] at h; omega
    by_cases h1 : n.tmod (m : Int) < 0
    · go_enter Try.func17, Try.ntmps17
      go_wp2
      go_ret
      exact pick_mk (by omega) (by omega)
    · have hd : decide (n.tmod (m : Int) < 0) = false := by simp; omega
      go_enter Try.func17, Try.ntmps17
      go_wp2
      go_ret
      exact pick_mk (by omega) (by omega)

end Go.Proofs.Ytiofhmlmimbngaa
