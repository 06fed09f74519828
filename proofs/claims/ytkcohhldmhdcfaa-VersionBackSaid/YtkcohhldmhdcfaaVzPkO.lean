/- Chapter 14: the theorem of the stage, plain. -/
import Derived.Test.YtkcohhldmhdcfaaVzPkJa
import Derived.Test.YtkcohhldmhdcfaaVzVeOa
import Derived.Test.YtkcohhldmhdcfaaVzVePa
namespace Go.Proofs.Ytkcohhldmhdcfaa
open Go.RowKit

/-- On a level that is not 0, files do not overlap. -/
theorem apart {v : Ver} (hc : chkW v = 0) {i : Nat} (hi : i < v.levels.length) (h0 : i ≠ 0) : ∀ d k, k + d + 1 < (lat v.levels i).length → Ent.bcmp (fat (lat v.levels i) k).most (fat (lat v.levels i) (k + d + 1)).least < 0
  | 0, k, hk => by
    have hb := ((chkW_good hc).2.1.lev i hi (k + 1) (by omega)).order (by omega)
    unfold behind at hb
    rw [if_neg h0] at hb
    simpa using hb
  | d + 1, k, hk => by
    have h1 := apart hc hi h0 d k (by omega)
    have hb := ((chkW_good hc).2.1.lev i hi (k + d + 2) (by omega)).order (by omega)
    unfold behind at hb
    rw [if_neg h0] at hb
    have h2 : Ent.bcmp (fat (lat v.levels i) (k + d + 1)).most (fat (lat v.levels i) (k + d + 2)).least < 0 := by simpa using hb
    have h3 := ((chkW_good hc).2.1.lev i hi (k + d + 1) (by omega)).fine.order
    have h4 := isCmp_bcmp.tr _ _ _ h3 (by omega : Ent.bcmp (fat (lat v.levels i) (k + d + 1)).most (fat (lat v.levels i) (k + d + 2)).least ≤ 0)
    have h5 := isCmp_bcmp.tr _ _ _ (by omega : Ent.bcmp (fat (lat v.levels i) k).most (fat (lat v.levels i) (k + d + 1)).least ≤ 0) h4
    rcases (show Ent.bcmp (fat (lat v.levels i) k).most (fat (lat v.levels i) (k + d + 2)).least < 0 ∨ 0 ≤ Ent.bcmp (fat (lat v.levels i) k).most (fat (lat v.levels i) (k + d + 2)).least by omega) with h6 | h6
    · exact h6
    · exfalso
      have h7 : Ent.bcmp (fat (lat v.levels i) (k + d + 2)).least (fat (lat v.levels i) k).most ≤ 0 := by rw [isCmp_bcmp.anti (fat (lat v.levels i) k).most]; omega
      have h8 := isCmp_bcmp.tr _ _ _ h4 h7
      have h9 := isCmp_bcmp.anti (fat (lat v.levels i) k).most (fat (lat v.levels i) (k + d + 1)).least
      omega
end Go.Proofs.Ytkcohhldmhdcfaa
