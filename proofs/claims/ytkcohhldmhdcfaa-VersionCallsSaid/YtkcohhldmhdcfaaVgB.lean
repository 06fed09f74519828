/- Chapter 12's document: place, anywhere. -/
import Derived.Test.YtkcohhldmhdcfaaVgA
namespace Go.Proofs.Ytkcohhldmhdcfaa
open Go.RowKit

/-- Where a file of a number stands; -1: nowhere. -/
def plcI (l : List Fil) (n : Int) : Int := if l.findIdx (numIs n) < l.length then (l.findIdx (numIs n) : Int) else -1
theorem plcI_at {l : List Fil} {n : Int} {k : Nat} (hk : k < l.length) (h0 : ∀ j, j < k → ¬ (fat l j).num = n) (h1 : (fat l k).num = n) : plcI l n = (k : Int) := by
  have h : l.findIdx (numIs n) = k := FirstF.idx ⟨Nat.le_of_lt hk, fun i hi => by unfold numIs; simpa using h0 i hi, fun _ => by unfold numIs; simpa using h1⟩
  unfold plcI
  rw [h, if_pos hk]
theorem plcI_none {l : List Fil} {n : Int} (h0 : ∀ j, j < l.length → ¬ (fat l j).num = n) : plcI l n = -1 := by
  have h : l.findIdx (numIs n) = l.length := FirstF.idx ⟨Nat.le_refl _, fun i hi => by unfold numIs; simpa using h0 i hi, fun h => absurd h (Nat.lt_irrefl _)⟩
  unfold plcI
  rw [h, if_neg (Nat.lt_irrefl _)]
theorem plcI_has {l : List Fil} {n : Int} : decide (0 ≤ plcI l n) = l.any (numIs n) := by
  unfold plcI
  rw [Bool.eq_iff_iff, decide_eq_true_eq, List.any_eq_true]
  constructor
  · intro h
    split at h
    · rename_i h1
      exact ⟨_, List.getElem_mem h1, List.findIdx_getElem (w := h1)⟩
    · omega
  · rintro ⟨x, hx, hp⟩
    rw [if_pos (List.findIdx_lt_length_of_exists ⟨x, hx, hp⟩)]
    omega
set_option maxRecDepth 100000 in
set_option maxHeartbeats 4000000 in
theorem rplace_any (F : Nat → Prop) (v : Value) (l : List Fil) (num : Int) (w : World) (h : Rw filK F w v l) (hfew : l.length ≤ 1000000) :
    Calls Try.prog 79 #[v, .int .u64 num] w fun e w' => e = .returned (.int .i64 (plcI l num)) ∧ Below w.heap.size w w' := by
  obtain ⟨xa, ca, rfl⟩ := h.isSlice
  have HA := Lib.hid h
  obtain ⟨n, hn⟩ : ∃ n, l.length = n := ⟨_, rfl⟩
  have HN := Lib.hid hn
  rw [hn] at HA hfew ⊢
  clear h hn
  go_enter Try.func79, Try.ntmps79
  go_wp2_with fail
  go_loopw [5] (fun kv wr => ∃ k : Nat, kv = .int .i64 (k : Int) ∧ k ≤ n ∧ Hid (∀ j, j < k → ¬ (fat l j).num = num) ∧ Hid (∃ q, wr = w.drewN q)) (fun kv _ => n - (intOf kv).toNat)
  case atStart => exact ⟨0, rfl, by omega, fun j hj => absurd hj (by omega), ⟨0, rfl⟩⟩
  case round =>
    obtain ⟨k, rfl, hk, HS, HQ⟩ := hrel
    have HBW : Hid (Below w.heap.size w wr) := below_drewN HQ.out
    by_cases hkn : k < n
    · have t1 : (k : Int) < (n : Int) := by omega
      have t2 : 0 ≤ (k : Int) := by omega
      have hkl : k < l.length := by rw [HN.out]; exact hkn
      obtain ⟨ba, oa, capa, ea, _, hba, hca⟩ := fils_at HA.out (by omega)
      obtain ⟨_, _, _, _, _, hc6⟩ := hca k hkl
      rw [HN.out] at ea
      injection ea with e1 e2 e3
      subst e1 e3
      clear e2 hca
      obtain ⟨c0, -⟩ := hc6.keep HBW.out hba
      obtain ⟨g, hg⟩ : ∃ g, fat l k = g := ⟨_, rfl⟩
      have HG := Lib.hid hg
      have HKL := Lib.hid hkl
      rw [hg] at c0
      clear hc6 hg hkl
      by_cases heq : g.num = num
      · have HF : Hid (plcI l num = (k : Int)) := plcI_at HKL.out HS.out (by rw [HG.out]; exact heq)
        go_wp2_with fail
        go_ret
        exact ⟨ret_int HF.out.symm, HBW.out⟩
      · have HS2 : Hid (∀ j, j < k + 1 → ¬ (fat l j).num = num) := fun j hj => by
          by_cases e : j = k
          · rw [e, HG.out]; exact heq
          · exact HS.out j (by omega)
        go_wp2_with fail
        go_roundw
        · exact ⟨k + 1, by go_num, by omega, HS2.out, HQ.out⟩
        · simp only [intOf]; omega
    · have t1 : ¬ (k : Int) < (n : Int) := by omega
      obtain rfl : k = n := by omega
      have HF : Hid (plcI l num = -1) := plcI_none (by rw [HN.out]; exact HS.out)
      go_wp2_with fail
      go_ret
      exact ⟨ret_int HF.out.symm, HBW.out⟩
theorem any_upto {ls : List (List Fil)} {num : Int} {k : Nat} (h : ∀ j, j < k → (lat ls j).any (numIs num) = false) (hk : ls.length ≤ k) : hasNum ls num = false := by
  cases hb : hasNum ls num with
  | false => rfl
  | true =>
    obtain ⟨i, f, hf, hn⟩ := hasNum_iff.1 hb
    by_cases hi : i < k
    · have h1 : (lat ls i).any (numIs num) = true := List.any_eq_true.2 ⟨f, hf, by unfold numIs; simpa using hn⟩
      rw [h i hi] at h1
      cases h1
    · have : lat ls i = [] := by unfold lat; simp [List.getD, List.getElem?_eq_none (show ls.length ≤ i by omega)]
      rw [this] at hf
      cases hf
set_option maxRecDepth 100000 in
set_option maxHeartbeats 4000000 in
theorem ranywhere_any (F : Nat → Prop) (v : Ver) (lv : Value) (num : Int) (w : World) (h : Rw (rowK filK) F w lv v.levels) (hfew : cntTo v.levels v.levels.length ≤ 1000000) (hlen : v.levels.length ≤ 1000000) :
    Calls Try.prog 80 #[.agg (verCells v lv).toArray, .int .u64 num] w fun e w' => e = .returned (.bool (hasNum v.levels num)) ∧ Below w.heap.size w w' := by
  have HLE : Hid (∀ i, i < v.levels.length → (lat v.levels i).length ≤ 1000000) := fun i hi => Nat.le_trans (lev_le_cnt hi) hfew
  obtain ⟨xa, ca, rfl⟩ := h.isSlice
  have HA := Lib.hid h
  obtain ⟨m, hm⟩ : ∃ m, v.levels.length = m := ⟨_, rfl⟩
  have HM := Lib.hid hm
  rw [hm] at HA HLE hlen ⊢
  clear h hm hfew
  unfold verCells
  go_enter Try.func80, Try.ntmps80
  go_upto_region 1 with fail
  refine wp_gen fun w1 hw1 => ?_
  have HX1 : Hid (Blk w1 w.heap.size (verCells v (.slice xa m ca)).toArray 25) := by rw [hw1]; exact Blk.at_new rfl rfl
  have HW1 : Hid (Below w.heap.size w w1) := by rw [hw1]; exact (Below.refl _ _).alloc (Nat.le_refl _) _
  clear hw1
  generalize hxb : w.heap.size = xb at HX1 ⊢
  have HXB := Lib.hid hxb
  clear hxb
  go_wp2_with fail
  go_loopw [5] (fun kv wr => ∃ k : Nat, kv = .int .i64 (k : Int) ∧ k ≤ m ∧ Hid (∀ j, j < k → (lat v.levels j).any (numIs num) = false) ∧ Hid (Below w1.heap.size w1 wr)) (fun kv _ => m - (intOf kv).toNat)
  case atStart => exact ⟨0, rfl, by omega, fun j hj => absurd hj (by omega), Below.refl _ _⟩
  case round =>
    obtain ⟨k, rfl, hk, HS, HB⟩ := hrel
    have x0 : wr.cell? ⟨xb, 0, none⟩ = some (.slice xa m ca) := (HX1.out.below HB.out HX1.out.lt).cell rfl
    by_cases hkm : k < m
    · have t1 : (k : Int) < (m : Int) := by omega
      have t2 : 0 ≤ (k : Int) := by omega
      have hkl : k < v.levels.length := by rw [HM.out]; exact hkm
      obtain ⟨ba, oa, capa, ea, _, hba, hca⟩ := levs_at ((HA.out.below HW1.out).below HB.out) (by omega)
      obtain ⟨u, hu, hcu⟩ := hca k hkl
      rw [HM.out] at ea
      injection ea with e1 e2 e3
      subst e1 e3
      obtain ⟨ua, uc, rfl⟩ := hu.isSlice
      have HU := Lib.hid hu
      have HLK := Lib.hid (HLE.out k hkm)
      have HAN : Hid (decide (0 ≤ plcI (lat v.levels k) num) = (lat v.levels k).any (numIs num)) := plcI_has
      have HKL := Lib.hid hkl
      clear e2 hca hu hba hkl
      go_wp2_with fail
      clear hcu x0
      refine Calls.mono (rplace_any _ _ (lat v.levels k) num wr HU.out HLK.out) ?_
      rintro _ w3 ⟨rfl, hb⟩
      have HB3 : Hid (Below w1.heap.size w1 w3) := HB.out.trans (hb.mono HB.out.size)
      clear hb
      obtain ⟨p, hp⟩ : ∃ p, plcI (lat v.levels k) num = p := ⟨_, rfl⟩
      rw [hp] at HAN ⊢
      clear hp
      by_cases h0 : 0 ≤ p
      · have HF : Hid (hasNum v.levels num = true) := by
          show _ = _
          have h1 := HAN.out
          rw [decide_eq_true h0] at h1
          obtain ⟨f, hf, hn⟩ := List.any_eq_true.1 h1.symm
          exact hasNum_iff.2 ⟨k, f, hf, by unfold numIs at hn; simpa using hn⟩
        go_wp2_with fail
        go_ret
        exact ⟨ret_bool HF.out.symm, by first | exact HW1.out.trans (HB3.out.mono HW1.out.size) | (rw [← HXB.out]; exact HW1.out.trans (HB3.out.mono HW1.out.size))⟩
      · have HS2 : Hid (∀ j, j < k + 1 → (lat v.levels j).any (numIs num) = false) := fun j hj => by
          by_cases e : j = k
          · rw [e, ← HAN.out, decide_eq_false h0]
          · exact HS.out j (by omega)
        go_wp2_with fail
        go_roundw
        · exact ⟨k + 1, by go_num, by omega, HS2.out, HB3.out⟩
        · simp only [intOf]; omega
    · have t1 : ¬ (k : Int) < (m : Int) := by omega
      have HF : Hid (hasNum v.levels num = false) := any_upto HS.out (by rw [HM.out]; omega)
      go_wp2_with fail
      go_ret
      exact ⟨ret_bool HF.out.symm, by first | exact HW1.out.trans (HB.out.mono HW1.out.size) | (rw [← HXB.out]; exact HW1.out.trans (HB.out.mono HW1.out.size))⟩
end Go.Proofs.Ytkcohhldmhdcfaa
