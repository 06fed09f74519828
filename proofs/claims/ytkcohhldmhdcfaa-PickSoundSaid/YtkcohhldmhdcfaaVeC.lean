/- Chapter 12: how many bytes a short number has. -/
import Derived.Test.YtkcohhldmhdcfaaVeB
import Derived.Test.YtkcohhldmhdcfaaVeBits
namespace Go.Proofs.Ytkcohhldmhdcfaa
open Go.RowKit

/-- How many bytes a short number has. -/
def sizeN (n : Nat) : Nat := if h : n < 128 then 1 else sizeN (n / 128) + 1
termination_by n
decreasing_by omega
theorem sizeN_small {n : Nat} (h : n < 128) : sizeN n = 1 := by rw [sizeN, dif_pos h]
theorem sizeN_more {n : Nat} (h : ¬ n < 128) : sizeN n = sizeN (n / 128) + 1 := by rw [sizeN, dif_neg h]
theorem sizeN_pos (n : Nat) : 1 ≤ sizeN n := by rw [sizeN]; split <;> omega
theorem bitLen_pos {n : Nat} (h : n ≠ 0) : 1 ≤ Lib.bitLen n := by
  unfold Lib.bitLen
  rw [show (64 : Nat) = 63 + 1 from rfl, Lib.bitLenAux, if_neg h]
  omega
theorem sizeN_bits (n : Nat) (hn : n < 18446744073709551616) : max 1 ((Lib.bitLen n + 6) / 7) = sizeN n := by
  induction n using Nat.strongRecOn with
  | ind n ih =>
    by_cases h : n < 128
    · rw [sizeN_small h]
      have : Lib.bitLen n ≤ 7 := Lib.bitLen_le n 7 (by omega) (by omega)
      omega
    · rw [sizeN_more h, ← ih (n / 128) (by omega) (by omega)]
      have h1 : Lib.bitLen n = 7 + Lib.bitLen (n / 2 ^ 7) := Lib.bitLen_shift 7 n (by show 128 ≤ n; omega) hn
      have h2 := bitLen_pos (n := n / 128) (by omega)
      rw [h1, show (2 : Nat) ^ 7 = 128 from rfl]
      omega
theorem sizeN_le (n : Nat) (h : n < 18446744073709551616) : sizeN n ≤ 10 := by
  rw [← sizeN_bits n h]
  have : Lib.bitLen n ≤ 64 := Lib.bitLen_le n 64 (by omega) (by omega)
  omega
theorem wsize_any (x : Int) (w : World) (h : u64In x) : Calls Try.prog 117 #[.int .u64 x] w fun e w' => e = .returned (.int .i64 (sizeN x.toNat : Int)) ∧ w' = w := by
  obtain ⟨h0, h1⟩ := h
  have HL := Lib.hid (Lib.bitLen_le x.toNat 64 (by omega) (by omega))
  have HS := Lib.hid (sizeN_bits x.toNat (by omega))
  have HC := Lib.hid (fun w => len64_any x w h0 (by omega))
  clear h0 h1
  go_enter Try.func117, Try.ntmps117
  go_wp2_with fail
  refine Calls.mono (HC.out _) ?_
  rintro _ w1 ⟨rfl, rfl⟩
  obtain ⟨b, hb⟩ : ∃ b, Lib.bitLen x.toNat = b := ⟨_, rfl⟩
  have hl := HL.out
  rw [hb] at hl HS
  rw [hb]
  clear hb HL HC
  go_wp2_with fail
  go_ret
  exact ⟨ret_int (by rw [← HS.out]; omega), rfl⟩
end Go.Proofs.Ytkcohhldmhdcfaa
