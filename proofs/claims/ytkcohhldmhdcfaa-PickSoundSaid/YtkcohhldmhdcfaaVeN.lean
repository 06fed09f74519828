/- Chapter 12: version.Overlap, plain. -/
import Derived.Test.YtkcohhldmhdcfaaVeM
namespace Go.Proofs.Ytkcohhldmhdcfaa
open Go.RowKit

open Classical in
/-- The files of a level that a span meets. -/
noncomputable def overB (v : Ver) (lv : Int) (least most : List UInt8) : List Fil := if chkW v = 0 ∧ 0 ≤ lv ∧ lv < v.levels.length then (lat v.levels lv.toNat).filter (lapB least most) else []
theorem filter_take_yes {p : Fil → Bool} {l : List Fil} {k : Nat} (hk : k < l.length) (h : p (fat l k) = true) : (l.take (k + 1)).filter p = (l.take k).filter p ++ [fat l k] := by
  rw [List.take_succ_eq_append_getElem hk, List.filter_append, fat_eq hk]
  simp [h]
theorem filter_take_no {p : Fil → Bool} {l : List Fil} {k : Nat} (hk : k < l.length) (h : p (fat l k) = false) : (l.take (k + 1)).filter p = (l.take k).filter p := by
  rw [List.take_succ_eq_append_getElem hk, List.filter_append, fat_eq hk]
  simp [h]
/-- What a good version's levels bring for clone. -/
theorem good_small {v : Ver} (h : chkW v = 0) : v.levels.length = 5 ∧ (∀ i, i < v.levels.length → (lat v.levels i).length ≤ 10000) ∧ ∀ i, i < v.levels.length → ∀ f ∈ lat v.levels i, f.least.length ≤ 4096 ∧ f.most.length ≤ 4096 := by
  obtain ⟨hh, hg, hc⟩ := chkW_good h
  refine ⟨hh.five, fun i hi => Nat.le_trans (lev_le_cnt hi) hc, fun i hi f hf => ?_⟩
  have h1 := hg.fine i hi f hf
  exact ⟨(keyOk_len h1.least).2, (keyOk_len h1.most).2⟩
end Go.Proofs.Ytkcohhldmhdcfaa
