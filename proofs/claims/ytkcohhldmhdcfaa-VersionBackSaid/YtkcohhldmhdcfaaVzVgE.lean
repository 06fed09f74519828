/- Chapter 12's document: Apply. -/
import Derived.Test.YtkcohhldmhdcfaaVzVgD
namespace Go.Proofs.Ytkcohhldmhdcfaa
open Go.RowKit

theorem putLs_lev {ls : List (List Fil)} {m : Nat} {f : Fil} (hm : m < ls.length) (i : Nat) : (lat (putLs ls m f) i).length ≤ (lat ls i).length + 1 ∧ ∀ g ∈ lat (putLs ls m f) i, g = f ∨ g ∈ lat ls i := by
  unfold putLs
  rw [lat_set hm]
  split
  · rename_i e
    subst e
    exact ⟨by unfold putTo; rw [insAt_len List.findIdx_le_length]; exact Nat.le_refl _, fun g hg => mem_insAt hg⟩
  · exact ⟨by omega, fun g hg => .inr hg⟩
theorem Small.put {ls : List (List Fil)} {n m : Nat} {f : Fil} (h : Small ls n) (hm : m < 5) (hf : f.least.length ≤ 100000000 ∧ f.most.length ≤ 100000000) : Small (putLs ls m f) (n + 1) :=
  ⟨(putLs_len _ _ _).trans h.five, fun i hi => Nat.le_trans (putLs_lev (by rw [h.five]; exact hm) i).1 (by have := h.len i hi; omega), fun i hi g hg => by
    rcases (putLs_lev (by rw [h.five]; exact hm) i).2 g hg with rfl | hg
    · exact hf
    · exact h.key i hi g hg⟩
theorem Small.more {ls : List (List Fil)} {n : Nat} (h : Small ls n) : Small ls (n + 1) := ⟨h.five, fun i hi => Nat.le_succ_of_le (h.len i hi), h.key⟩
end Go.Proofs.Ytkcohhldmhdcfaa
