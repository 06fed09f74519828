/- Chapter 12: the document's edits, plain. -/
import Derived.Test.YtkcohhldmhdcfaaVzPkQa
namespace Go.Proofs.Ytkcohhldmhdcfaa
open Go.RowKit

/-- The document puts a file ahead of the first that it is not behind. -/
def lowB (lev : Int) (f x : Fil) : Bool := if lev = 0 then decide (x.num < f.num) else decide (Ent.bcmp x.least f.least < 0)
def putTo (l : List Fil) (lev : Int) (f : Fil) : List Fil := insAt l (l.findIdx fun x => !lowB lev f x) f
def putLs (ls : List (List Fil)) (m : Nat) (f : Fil) : List (List Fil) := ls.set m (putTo (lat ls m) (m : Int) f)
theorem putLs_len (ls : List (List Fil)) (m : Nat) (f : Fil) : (putLs ls m f).length = ls.length := by unfold putLs; rw [List.length_set]
theorem bcmp_lt3 {a b c : List UInt8} (h1 : Ent.bcmp a b ≤ 0) (h2 : Ent.bcmp b c < 0) : Ent.bcmp a c < 0 := by
  by_cases h : Ent.bcmp a c < 0
  · exact h
  · have g1 := isCmp_bcmp.anti a c
    have g2 := isCmp_bcmp.anti b c
    have g3 := isCmp_bcmp.tr c a b (by omega) h1
    omega
theorem fine_le {f : Fil} (h : f.Fine) : Ent.bcmp f.least f.most ≤ 0 := h.order
theorem good_up {v : Ver} (h : Good v) {m : Nat} (hm : m < v.levels.length) (h0 : 0 < m) (i : Nat) : ∀ j, i < j → j < (lat v.levels m).length → Ent.bcmp (fat (lat v.levels m) i).least (fat (lat v.levels m) j).least < 0
  | 0, hi, _ => by omega
  | j + 1, hi, hj => by
    have ok := h.lev m hm (j + 1) hj
    have ok0 := h.lev m hm j (by omega)
    have ho := ok.order (by omega)
    unfold behind at ho
    rw [if_neg (by omega), Nat.add_sub_cancel] at ho
    have h1 := bcmp_lt3 (fine_le ok0.fine) ho
    by_cases e : i = j
    · subst e; exact h1
    · exact bcmp_lt3 (Int.le_of_lt (good_up h hm h0 i j (by omega) (by omega))) h1
end Go.Proofs.Ytkcohhldmhdcfaa
