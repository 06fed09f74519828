/- Chapter 12's document: put. -/
import Derived.Test.YtkcohhldmhdcfaaVzVgA
import Derived.Test.YtkcohhldmhdcfaaVzVkAa
namespace Go.Proofs.Ytkcohhldmhdcfaa
open Go.RowKit

theorem Blk.grown {W w' : World} {k : Nat} {c : Array Value} {T : TypeId} {v : Value} (h : Blk W k c T) (hsm : ∀ k, k < W.heap.size → v.ownBlock ≠ some k → w'.heap[k]? = W.heap[k]?) (hne : v.ownBlock ≠ some k) : Blk w' k c T := h.same (hsm k h.lt hne)
end Go.Proofs.Ytkcohhldmhdcfaa
