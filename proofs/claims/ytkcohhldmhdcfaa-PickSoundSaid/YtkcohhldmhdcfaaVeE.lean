/- Chapter 12: how many bytes a version's edit has. -/
import Derived.Test.YtkcohhldmhdcfaaVeD
import Derived.Deep.RegionLaw
namespace Go.Proofs.Ytkcohhldmhdcfaa
open Go.RowKit

def sizesTo (xs : List Int) (k : Nat) : Nat := ((xs.take k).map fun x => sizeN x.toNat).sum
theorem sizesTo_succ {xs : List Int} {k : Nat} (h : k < xs.length) : sizesTo xs (k + 1) = sizesTo xs k + sizeN (xs[k]).toNat := by
  unfold sizesTo
  rw [List.take_succ_eq_append_getElem h, List.map_append, List.sum_append]
  simp
theorem sizesTo_le {xs : List Int} (h : ∀ x ∈ xs, u64In x) : ∀ k, k ≤ xs.length → sizesTo xs k ≤ 10 * k
  | 0, _ => by simp [sizesTo]
  | k + 1, hk => by
    have h1 := sizesTo_le h k (by omega)
    have h2 := sizeN_le (xs[k]'(by omega)).toNat (by have := h _ (List.getElem_mem (show k < xs.length by omega)); unfold u64In at this; omega)
    rw [sizesTo_succ (by omega)]
    omega
def sizes (xs : List Int) : Nat := sizesTo xs xs.length
def CountPost (nb : Nat) (c : Nat) (w : World) (x : Ending) (w' : World) : Prop := x = .returned (.tuple #[]) ∧ Wrote (fun k => k = nb) w w' ∧ Blk w' nb #[.int .i64 (c : Int)] 3

set_option maxRecDepth 100000 in
set_option maxHeartbeats 4000000 in
theorem count_any (F : Nat → Prop) (v : Value) (xs : List Int) (nb c : Nat) (w : World) (h : Rw u64K F w v xs) (hF : ∀ k, F k → k ≠ nb) (hx : ∀ x ∈ xs, u64In x) (hb : Blk w nb #[.int .i64 (c : Int)] 3) (hl : xs.length ≤ 100) (hc : c ≤ 1000000000) :
    Calls Try.prog 116 #[v, .pointer (some ⟨nb, 0, none⟩)] w (CountPost nb (c + sizes xs) w) := by
  obtain ⟨xa, ca, rfl⟩ := h.isSlice
  have HA : Hid (Rw u64K (· ≠ nb) w (.slice xa xs.length ca) xs) := h.mono fun k _ hk => hF k hk
  have HX := Lib.hid hx
  have HB := Lib.hid hb
  have HS := Lib.hid (fun k hk => sizesTo_le hx k hk)
  clear h hx hb
  obtain ⟨n, hn⟩ : ∃ n, xs.length = n := ⟨_, rfl⟩
  have HN := Lib.hid hn
  rw [hn] at HA hl
  rw [hn]
  clear hn
  go_enter Try.func116, Try.ntmps116
  go_wp2_with fail
  go_loopw [7] (fun iv wr => ∃ (k : Nat), iv = .int .i64 (k : Int) ∧ k ≤ n ∧ Hid (Wrote (fun k => k = nb) w wr) ∧ Hid (Blk wr nb #[.int .i64 ((c + sizesTo xs k : Nat) : Int)] 3)) (fun iv _ => n - (intOf iv).toNat)
  case atStart => exact ⟨0, rfl, by omega, Wrote.of_below (Below.refl _ _), HB.out⟩
  case round =>
    obtain ⟨k, rfl, hk, HW, HBk⟩ := hrel
    clear HB
    by_cases hlt : k < n
    · have t1 : (k : Int) < (n : Int) := by omega
      have t3 : 0 ≤ (k : Int) := by omega
      have hk1 : k < xs.length := by rw [HN.out]; exact hlt
      have HAr : Hid (Rw u64K (· ≠ nb) wr (.slice xa n ca) xs) := HA.out.keep fun j hj hF => HW.out.block j hj hF
      obtain ⟨ba, oa, capa, ea, hba, hca⟩ := u64s_at HAr.out (by omega)
      injection ea with e1 e2 e3
      subst e1 e3
      clear e2
      have c0 := hca k hk1
      have HU := Lib.hid (HX.out _ (List.getElem_mem hk1))
      have HSS := Lib.hid (sizesTo_succ hk1)
      have HSL := HS.out k (by omega)
      obtain ⟨x, hx⟩ : ∃ x, xs[k] = x := ⟨_, rfl⟩
      rw [hx] at c0 HU HSS
      obtain ⟨z, hz⟩ : ∃ z, sizeN x.toNat = z := ⟨_, rfl⟩
      have HZC : Hid (∀ w, Calls Try.prog 117 #[.int .u64 x] w fun e w' => e = .returned (.int .i64 (z : Int)) ∧ w' = w) := fun w => by rw [← hz]; exact wsize_any x w HU.out
      have hzl : z ≤ 10 := by rw [← hz]; exact sizeN_le _ (by have := HU.out; unfold u64In at this; omega)
      rw [hz] at HSS
      obtain ⟨d, hd⟩ : ∃ d, c + sizesTo xs k = d := ⟨_, rfl⟩
      have hdl : d ≤ 1000001000 := by omega
      have HDD : Hid (c + sizesTo xs (k + 1) = d + z) := by show _ = _; rw [HSS.out]; omega
      rw [hd] at HBk
      clear hca hx hz hd hba HSL
      go_upto_region 3 with fail
      have n0 : wr.drew.cell? ⟨nb, 0, none⟩ = some (.int .i64 (d : Int)) := HBk.out.cell rfl
      have n1 : wr.drew.frozen? ⟨nb, 0, none⟩ = false := HBk.out.free 0
      have s1 : IntKind.i64.wrap ((d : Int) + (z : Int)) = (d : Int) + (z : Int) := wrap_mid (by omega) (by omega)
      go_region_law (first
        | (go_simp; go_at_call 117; refine Calls.mono (HZC.out _) ?_; rintro _ x1 ⟨rfl, rfl⟩))
      all_goals
        go_upto_region 4 with fail
        refine wp_gen fun w5 hw5 => ?_
        have HB5 : Hid (Blk w5 nb #[.int .i64 ((c + sizesTo xs (k + 1) : Nat) : Int)] 3) := by
          rw [hw5, HDD.out]
          have h5 := HBk.out.set 0 (.int .i64 ((d : Int) + (z : Int)))
          rw [show ((d + z : Nat) : Int) = (d : Int) + (z : Int) by omega]
          exact h5
        have HW5 : Hid (Wrote (fun k => k = nb) w w5) := by rw [hw5]; exact (HW.out.drewN 1).setCell _ _ (.inl rfl)
        clear hw5 HBk HW n0 n1 s1 c0
        go_wp2_with fail
        go_roundw
        · exact ⟨k + 1, by go_num, by omega, HW5.out, HB5.out⟩
        · simp only [intOf]; omega
    · have t1 : ¬ (k : Int) < (n : Int) := by omega
      have hkn : k = n := by omega
      have HP : Hid (CountPost nb (c + sizes xs) w (.returned (.tuple #[])) wr) := ⟨rfl, HW.out, by unfold sizes; rw [HN.out, ← hkn]; exact HBk.out⟩
      clear HBk hkn
      go_wp2_with fail
      go_end0
      exact HP.out
end Go.Proofs.Ytkcohhldmhdcfaa
