/- A region that draws its order, and whose last three operations wait for all others. -/
import Derived.Test.YtkcohhldmhdcfaaDrawI
namespace Go.Proofs.Ytkcohhldmhdcfaa
open Go.RowKit
section
variable {P : Program} {o1 o2 o3 : Oper} {Q : Exit → Act → World → Prop}
theorem replicate_push (n : Nat) : (Array.replicate n false).push false = Array.replicate (n + 1) false := (Array.replicate_succ ..).symm
/-- The region: all but the last three under S, in any order; then the last three. -/
theorem wp_region_last3 {S : World → Prop} {id n : Nat} {all : Array Oper} {l : List Oper} {a : Act} {w : World} (hm : P.follows .mixedOrders = true) (hl : all.toList = l ++ [o1, o2, o3]) (hn : l.length = n)
    (hb1 : lastB .any l.toArray o1 = true) (hb2 : lastB .any (l ++ [o1]).toArray o2 = true) (hb3 : lastB .any (l ++ [o1, o2]).toArray o3 = true) (hg1 : o1.guard = none) (hg2 : o2.guard = none) (hg3 : o3.guard = none)
    (h : wpAnyH P .any l.toArray (thenLast P o1 (thenLast P o2 (thenLast P o3 Q))) S n (Array.replicate n false) a w.drew) : (Code.region id all true).wp P Q a w := by
  subst hn
  have hall : all = ((l.toArray.push o1).push o2).push o3 := by
    obtain ⟨x⟩ := all
    have hl' : x = l ++ [o1, o2, o3] := hl
    simp [hl']
  have e1 : (l ++ [o1]).toArray = l.toArray.push o1 := by simp
  have e2 : (l ++ [o1, o2]).toArray = (l.toArray.push o1).push o2 := by simp
  rw [e1] at hb2
  rw [e2] at hb3
  subst hall
  refine wp_region_any hm ?_
  have hc : ∀ ops : Array Oper, Closed .any ops (Array.replicate ops.size false) := fun ops j oj _ h => by rw [getD_replicate] at h; cases h
  have h1 := wpAny_last (lastB_spec hb1) hg1 l.toArray.size (Array.replicate l.toArray.size false) a w.drew (by simp) (hc _) (wpAny_of_held _ _ _ _ (by simpa using h))
  rw [replicate_push] at h1
  have s1 : (l.toArray.push o1).size = l.toArray.size + 1 := by simp
  rw [← s1] at h1
  have h2 := wpAny_last (lastB_spec hb2) hg2 _ _ a w.drew (by simp) (hc _) h1
  rw [replicate_push] at h2
  have s2 : ((l.toArray.push o1).push o2).size = (l.toArray.push o1).size + 1 := by simp
  rw [← s2] at h2
  have h3 := wpAny_last (lastB_spec hb3) hg3 _ _ a w.drew (by simp) (hc _) h2
  rw [replicate_push] at h3
  have s3 : (((l.toArray.push o1).push o2).push o3).size = ((l.toArray.push o1).push o2).size + 1 := by simp
  rw [s3]
  exact h3
end
end Go.Proofs.Ytkcohhldmhdcfaa
