/- The laws' own functions small and rowOf. -/
import Derived.Test.YtkpbkhbgiijbiaaKitB
import Derived.Test.YtkpbkhbgiijbiaaFrCut
namespace Go.Proofs.Ytkpbkhbgiijbiaa
open Go.RowKit

def Fr.sum (fs : List Fr.T) : Nat := (fs.map (·.body.length)).sum

theorem Fr.sum_succ (fs : List Fr.T) (j : Nat) (h : j < fs.length) : Fr.sum (fs.take (j + 1)) = Fr.sum (fs.take j) + fs[j].body.length := by
  unfold Fr.sum
  rw [List.take_succ_eq_append_getElem h, List.map_append, List.sum_append]
  simp

theorem Fr.sum_le (fs : List Fr.T) (B : Nat) (h : ∀ f ∈ fs, f.body.length ≤ B) : Fr.sum fs ≤ fs.length * B := by
  induction fs with
  | nil => simp [Fr.sum]
  | cons f fs ih =>
    have h1 := ih fun g hg => h g (by simp [hg])
    have h2 := h f (by simp)
    unfold Fr.sum at *
    simp only [List.map_cons, List.sum_cons, List.length_cons, Nat.add_mul, Nat.one_mul]
    omega

theorem Fr.le_sum (fs : List Fr.T) : ∀ f ∈ fs, f.body.length ≤ Fr.sum fs := by
  induction fs with
  | nil => simp
  | cons f fs ih =>
    intro g hg
    unfold Fr.sum at *
    simp only [List.map_cons, List.sum_cons]
    rcases List.mem_cons.1 hg with rfl | h
    · omega
    · have := ih g h; omega

set_option maxRecDepth 100000 in
/-- At most 40 frames: they are weighed. -/
theorem small_few (F : Nat → Prop) (v : Value) (fs : List Fr.T) (w : World) (hv : Frames F w v fs) (hn : fs.length ≤ 40) (hb : ∀ f ∈ fs, f.body.length ≤ 140737488355328) :
    Calls Try.prog 29 #[v] w fun e w' => e = .returned (.bool (decide (Fr.sum fs ≤ 4000))) ∧ w' = w := by
  obtain ⟨a, c, rfl⟩ := hv.isSlice
  have HV := Lib.hid hv
  have HB := Lib.hid hb
  clear hv hb
  go_enter Try.func29, Try.ntmps29
  go_wp2_with fail
  go_loop [3, 4] (fun n i => ∃ j : Nat, n = .int .i64 (Fr.sum (fs.take j) : Int) ∧ i = .int .i64 j ∧ j ≤ fs.length) (fun _ i => fs.length - (intOf i).toNat)
  case atStart => exact ⟨0, rfl, rfl, by omega⟩
  case round =>
    obtain ⟨j, rfl, rfl, hj⟩ := hrel
    have hs40 := Fr.sum_le (fs.take j) 140737488355328 fun f hf => HB.out f (List.mem_of_mem_take hf)
    have hs41 : Fr.sum (fs.take j) ≤ 40 * 140737488355328 := Nat.le_trans hs40 (Nat.mul_le_mul_right _ (by simp; omega))
    clear hs40
    by_cases hlt : j < fs.length
    · obtain ⟨b, off, cap, ea, hbl, hc⟩ := HV.out.place (by omega)
      injection ea with e1 e2 e3
      subst e1 e3
      clear e2
      obtain ⟨_, v1, k1, hv1⟩ := hc j hlt
      obtain ⟨a1, c1, rfl⟩ := hv1.isSlice
      rw [← Nat.add_assoc] at k1
      have HS := Lib.hid (Fr.sum_succ fs j hlt)
      have hb1 := HB.out fs[j] (List.getElem_mem hlt)
      clear hc hv1
      generalize fs[j].body.length = m at *
      go_wp2_with fail
      go_round
      case rel => exact ⟨j + 1, by rw [HS.out, Int.natCast_add], by go_num, by omega⟩
      case measure => simp only [intOf]; omega
    · obtain rfl : j = fs.length := by omega
      have HE : Hid (Fr.sum (fs.take fs.length) = Fr.sum fs) := by rw [List.take_length]; rfl
      rw [HE.out] at *
      go_wp2_with fail
      go_ret
      exact ⟨ret_bool (decide_eq_decide.2 (by omega)), rfl⟩

set_option maxRecDepth 100000 in
/-- More than 40 frames are not gone through. -/
theorem small_many (F : Nat → Prop) (v : Value) (fs : List Fr.T) (w : World) (hv : Frames F w v fs) (hn : 40 < fs.length) (hml : fs.length ≤ 140737488355328) (hb : ∀ f ∈ fs, f.body.length ≤ 140737488355328) :
    Calls Try.prog 29 #[v] w fun e w' => e = .returned (.bool false) ∧ w' = w := by
  obtain ⟨a, c, rfl⟩ := hv.isSlice
  have HV := Lib.hid hv
  have HB := Lib.hid hb
  clear hv hb
  go_enter Try.func29, Try.ntmps29
  go_wp2_with fail
  go_loop [3, 4] (fun n i => ∃ (z : Int) (j : Nat), n = .int .i64 z ∧ -9223372036854775808 ≤ z ∧ z ≤ 9223372036854775807 ∧ i = .int .i64 j ∧ j ≤ fs.length) (fun _ i => fs.length - (intOf i).toNat)
  case atStart => exact ⟨0, 0, rfl, by omega, by omega, rfl, by omega⟩
  case round =>
    obtain ⟨z, j, rfl, hz0, hz1, rfl, hj⟩ := hrel
    by_cases hlt : j < fs.length
    · obtain ⟨b, off, cap, ea, hbl, hc⟩ := HV.out.place (by omega)
      injection ea with e1 e2 e3
      subst e1 e3
      clear e2
      obtain ⟨_, v1, k1, hv1⟩ := hc j hlt
      obtain ⟨a1, c1, rfl⟩ := hv1.isSlice
      rw [← Nat.add_assoc] at k1
      have hb1 := HB.out fs[j] (List.getElem_mem hlt)
      clear hc hv1
      generalize fs[j].body.length = m at *
      go_wp2_with fail
      go_round
      case rel =>
        refine ⟨_, j + 1, rfl, ?_, ?_, by go_num, by omega⟩
        · unfold RowKit.wrap64; omega
        · unfold RowKit.wrap64; omega
      case measure => simp only [intOf]; omega
    · obtain rfl : j = fs.length := by omega
      go_wp2_with fail
      go_ret
      exact ⟨rfl, rfl⟩
end Go.Proofs.Ytkpbkhbgiijbiaa
