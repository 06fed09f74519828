/- Chapter 12's law: small, smallEdit. -/
import Derived.Test.YtkcohhldmhdcfaaVzVgH
namespace Go.Proofs.Ytkcohhldmhdcfaa
open Go.RowKit

/-- How many bytes the first keys have. -/
def sumAdds (l : List (Int × Fil)) : Nat → Nat
  | 0 => 0
  | k + 1 => sumAdds l k + (adat l k).2.least.length + (adat l k).2.most.length
theorem sumAdds_le {l : List (Int × Fil)} {B : Nat} (h : ∀ a ∈ l, a.2.least.length ≤ B ∧ a.2.most.length ≤ B) : ∀ k, k ≤ l.length → sumAdds l k ≤ k * (2 * B)
  | 0, _ => Nat.zero_le _
  | k + 1, hk => by
    have h1 := sumAdds_le h k (by omega)
    have h2 := h _ (adat_mem hk)
    rw [sumAdds, Nat.add_mul]
    omega
theorem sumAdds_mem {l : List (Int × Fil)} : ∀ k, k ≤ l.length → ∀ i, i < k → (adat l i).2.least.length ≤ sumAdds l k ∧ (adat l i).2.most.length ≤ sumAdds l k
  | 0, _, i, hi => by omega
  | k + 1, hk, i, hi => by
    rw [sumAdds]
    by_cases e : i = k
    · subst e; omega
    · have := sumAdds_mem (l := l) k (by omega) i (by omega)
      omega
theorem wrap_at {x : Int} (h0 : -9223372036854775808 ≤ x) (h1 : x ≤ 9223372036854775807) : IntKind.i64.wrap x = x := by
  have : IntKind.i64.wrap x = RowKit.wrap64 x := by unfold RowKit.wrap64; simp [IntKind.wrap, IntKind.signed, IntKind.bits]; omega
  rw [this]; unfold RowKit.wrap64; omega
theorem wrap64_at {x : Int} (h0 : -9223372036854775808 ≤ x) (h1 : x ≤ 9223372036854775807) : RowKit.wrap64 x = x := by unfold RowKit.wrap64; omega
theorem sum_step {l : List (Int × Fil)} {k : Nat} {y : Int} {a b : Nat} (h : ∀ a ∈ l, a.2.least.length ≤ 140737488355328 ∧ a.2.most.length ≤ 140737488355328) (hk : k < l.length) (h100 : l.length ≤ 100) (hy : y = (sumAdds l k : Nat)) (ha : (adat l k).2.least.length = a) (hb : (adat l k).2.most.length = b) :
    IntKind.i64.wrap (IntKind.i64.wrap (y + (a : Int)) + (b : Int)) = (sumAdds l (k + 1) : Nat) ∧ RowKit.wrap64 (RowKit.wrap64 (y + (a : Int)) + (b : Int)) = (sumAdds l (k + 1) : Nat) := by
  have h1 := sumAdds_le h k (by omega)
  have h2 := h _ (adat_mem hk)
  rw [ha, hb] at h2
  have h3 : k * (2 * 140737488355328) ≤ 100 * (2 * 140737488355328) := Nat.mul_le_mul_right _ (by omega)
  have e : sumAdds l (k + 1) = sumAdds l k + a + b := by rw [sumAdds, ha, hb]
  subst hy
  rw [wrap_at (x := (sumAdds l k : Nat) + (a : Int)) (by omega) (by omega), wrap64_at (x := (sumAdds l k : Nat) + (a : Int)) (by omega) (by omega), wrap_at (by omega) (by omega), wrap64_at (by omega) (by omega), e]
  constructor <;> omega
/-- What smallEdit tells. -/
def SmallE (e : Edi) (w : World) (x : Ending) (w' : World) : Prop := ∃ b, x = .returned (.bool b) ∧ (b = true → e.drops.length ≤ 100 ∧ e.adds.length ≤ 100 ∧ ∀ a ∈ e.adds, a.2.least.length ≤ 10000 ∧ a.2.most.length ≤ 10000) ∧ Below w.heap.size w w'
theorem SmallE.no {e : Edi} {w w' : World} (h : Below w.heap.size w w') : SmallE e w (.returned (.bool false)) w' := ⟨_, rfl, (fun e => by cases e), h⟩
theorem SmallE.of {e : Edi} {w w' : World} (b : Bool) (h : Below w.heap.size w w') (h1 : e.drops.length ≤ 100 ∧ e.adds.length ≤ 100 ∧ ∀ a ∈ e.adds, a.2.least.length ≤ 10000 ∧ a.2.most.length ≤ 10000) : SmallE e w (.returned (.bool b)) w' := ⟨_, rfl, fun _ => h1, h⟩
theorem small_keys {l : List (Int × Fil)} (h : sumAdds l l.length ≤ 10000) : ∀ a ∈ l, a.2.least.length ≤ 10000 ∧ a.2.most.length ≤ 10000 := by
  intro a ha
  obtain ⟨i, hi, rfl⟩ := List.mem_iff_getElem.1 ha
  rw [adat_eq hi]
  have := sumAdds_mem (l := l) l.length (Nat.le_refl _) i hi
  omega
set_option maxRecDepth 100000 in
set_option maxHeartbeats 2000000 in
theorem smallEdit_any (G : Nat → Prop) (e : Edi) (dv av : Value) (w : World) (he : EdiAt G w e dv av) (hd : e.drops.length ≤ 140737488355328) (ha : e.adds.length ≤ 140737488355328) (hk : ∀ a ∈ e.adds, a.2.least.length ≤ 140737488355328 ∧ a.2.most.length ≤ 140737488355328) :
    Calls Try.prog 37 #[.agg (ediCells e dv av).toArray] w (SmallE e w) := by
  have HA := Lib.hid he.adds
  have HKY := Lib.hid hk
  obtain ⟨xa, ca, rfl⟩ := he.drops.isSlice
  obtain ⟨za, cz, rfl⟩ := he.adds.isSlice
  obtain ⟨nd, hnd⟩ : ∃ m, e.drops.length = m := ⟨_, rfl⟩
  obtain ⟨na, hna⟩ : ∃ m, e.adds.length = m := ⟨_, rfl⟩
  have HND := Lib.hid hnd
  have HNA := Lib.hid hna
  rw [hna] at HA ha
  rw [hnd] at hd
  rw [hnd, hna]
  clear he hk hnd hna
  unfold ediCells
  go_enter Try.func37, Try.ntmps37
  go_upto_region 1 with fail
  refine wp_gen fun w1 hw1 => ?_
  have HX1 : Hid (Blk w1 w.heap.size (ediCells e (.slice xa nd ca) (.slice za na cz)).toArray 57) := by rw [hw1]; exact Blk.at_new rfl rfl
  have HW1 : Hid (Below w.heap.size w w1) := by rw [hw1]; exact (Below.refl _ _).alloc (Nat.le_refl _) _
  clear hw1
  have HA1 := Lib.hid (HA.out.below HW1.out)
  generalize hxb : w.heap.size = xb at HX1 ⊢
  have HXB := Lib.hid hxb
  clear hxb HA
  go_wp2_with fail
  go_loopw [3, 4] (fun bv iv wr => ∃ (i : Nat) (y : Int), bv = .int .i64 y ∧ iv = .int .i64 (i : Int) ∧ i ≤ na ∧ Hid (na ≤ 100 → y = (sumAdds e.adds i : Nat)) ∧ Hid (∃ q, wr = w1.drewN q)) (fun _ iv _ => na - (intOf iv).toNat)
  case atStart => exact ⟨0, 0, rfl, rfl, by omega, fun _ => rfl, ⟨0, rfl⟩⟩
  case round =>
    obtain ⟨i, y, rfl, rfl, hi, HY, HQ⟩ := hrel
    have HBW : Hid (Below w1.heap.size w1 wr) := below_drewN HQ.out
    have x1 : wr.cell? ⟨xb, 1, none⟩ = some (.slice za na cz) := (HX1.out.below HBW.out HX1.out.lt).cell rfl
    by_cases hin : i < na
    · have t1 : (i : Int) < (na : Int) := by omega
      have t2 : 0 ≤ (i : Int) := by omega
      have hil : i < e.adds.length := by rw [HNA.out]; exact hin
      obtain ⟨ba, oa, capa, ea, _, hba, hca⟩ := adds_at HA1.out (by omega)
      obtain ⟨al, am, _, g1, g2, _, hc7⟩ := hca i hil
      rw [HNA.out] at ea
      injection ea with e1 e2 e3
      subst e1 e3
      obtain ⟨l1, hl1⟩ : ∃ x, (adat e.adds i).2.least.length = x := ⟨_, rfl⟩
      obtain ⟨l2, hl2⟩ : ∃ x, (adat e.adds i).2.most.length = x := ⟨_, rfl⟩
      have HST : Hid (na ≤ 100 → IntKind.i64.wrap (IntKind.i64.wrap (y + (l1 : Int)) + (l2 : Int)) = (sumAdds e.adds (i + 1) : Nat) ∧ RowKit.wrap64 (RowKit.wrap64 (y + (l1 : Int)) + (l2 : Int)) = (sumAdds e.adds (i + 1) : Nat)) := fun h => sum_step HKY.out hil (by rw [HNA.out]; exact h) (HY.out h) hl1 hl2
      obtain ⟨a1, n1, rfl⟩ := g1.isSlice
      obtain ⟨a2, n2, rfl⟩ := g2.isSlice
      rw [hl1, hl2] at hc7
      obtain ⟨-, -, -, d3, d4, -, -⟩ := hc7.keep HBW.out hba
      have d3 : wr.cell? ⟨ba, oa + i * 7 + 3, none⟩ = some (.slice a1 l1 n1) := d3
      have d4 : wr.cell? ⟨ba, oa + i * 7 + 4, none⟩ = some (.slice a2 l2 n2) := d4
      clear e2 hca g1 g2 hc7 hba hil hl1 hl2
      go_wp2_with fail
      go_quiet (fail)
      all_goals
        go_wp2_with fail
        go_roundw
        · exact ⟨i + 1, _, rfl, by go_num, by omega, by first | exact fun h => (HST.out h).1 | exact fun h => (HST.out h).2, by first | exact HQ.out | exact drewN_one HQ.out | exact drewN_more HQ.out _⟩
        · simp only [intOf]; omega
    · have t1 : ¬ (i : Int) < (na : Int) := by omega
      obtain rfl : i = na := by omega
      have HBE : Hid (Below w.heap.size w wr) := HW1.out.trans (HBW.out.mono HW1.out.size)
      have x0 : wr.cell? ⟨xb, 0, none⟩ = some (.slice xa nd ca) := (HX1.out.below HBW.out HX1.out.lt).cell rfl
      by_cases h100 : i ≤ 100
      · have HG := Lib.hid (HY.out h100)
        have t2 : (i : Int) ≤ 100 := by omega
        by_cases hd100 : nd ≤ 100
        · have t3 : (nd : Int) ≤ 100 := by omega
          by_cases hy : y ≤ 10000
          · have HC : Hid (e.drops.length ≤ 100 ∧ e.adds.length ≤ 100 ∧ ∀ a ∈ e.adds, a.2.least.length ≤ 10000 ∧ a.2.most.length ≤ 10000) := ⟨by rw [HND.out]; exact hd100, by rw [HNA.out]; exact h100, small_keys (by rw [HNA.out]; have := HG.out; omega)⟩
            go_wp2_with fail
            go_ret
            exact SmallE.of _ HBE.out HC.out
          · go_wp2_with fail
            go_ret
            exact SmallE.no HBE.out
        · have t3 : ¬ (nd : Int) ≤ 100 := by omega
          go_wp2_with fail
          go_ret
          exact SmallE.no HBE.out
      · have t2 : ¬ (i : Int) ≤ 100 := by omega
        go_wp2_with fail
        go_ret
        exact SmallE.no HBE.out
end Go.Proofs.Ytkcohhldmhdcfaa
