/- Chapter 14's document: CheckSetup, Bound, part. Chapter 14's document: ref12.Bytes, Score, Rest. Chapter 14's document: Rest, ends. Chapter 14's document: ends. -/
import Derived.Test.YtkcohhldmhdcfaaVzPkJa
import Derived.Test.YtkcohhldmhdcfaaVzPkO
namespace Go.Proofs.Ytkcohhldmhdcfaa
open Go.RowKit

end Go.Proofs.Ytkcohhldmhdcfaa

namespace Go.Proofs.Ytkcohhldmhdcfaa
open Go.RowKit

/-- A file at its place, in any later memory. -/
theorem file_at {F : Nat → Prop} {w : World} {a : Option Addr} {n c : Nat} {l : List Fil} (h : Rw filK F w (.slice a n c) l) (hn : l.length = n) {k : Nat} (hk : k < n) :
    ∃ b o, a = some ⟨b, o, none⟩ ∧ ∃ la lc ma mc, Bytes F w (.slice la (fat l k).least.length lc) (fat l k).least ∧ Bytes F w (.slice ma (fat l k).most.length mc) (fat l k).most ∧ C6 b (o + k * 6) (fat l k) (.slice la (fat l k).least.length lc) (.slice ma (fat l k).most.length mc) w := by
  obtain ⟨b, o, cap, e, _, _, hc⟩ := fils_at h (by omega)
  obtain ⟨vl, vm, h1, h2, _, h6⟩ := hc k (by omega)
  injection e with e1 e2 e3
  obtain ⟨la, lc, rfl⟩ := h1.isSlice
  obtain ⟨ma, mc, rfl⟩ := h2.isSlice
  exact ⟨b, o, e1, la, lc, ma, mc, h1, h2, h6⟩

end Go.Proofs.Ytkcohhldmhdcfaa

namespace Go.Proofs.Ytkcohhldmhdcfaa
open Go.RowKit

end Go.Proofs.Ytkcohhldmhdcfaa

namespace Go.Proofs.Ytkcohhldmhdcfaa
open Go.RowKit

end Go.Proofs.Ytkcohhldmhdcfaa
