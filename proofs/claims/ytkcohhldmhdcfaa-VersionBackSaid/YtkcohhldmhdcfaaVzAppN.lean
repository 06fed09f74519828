/- append onto an empty literal, and onto what comes of it, as one step's law of a region that draws its order. -/
import Derived.Test.YtkcohhldmhdcfaaVzElsF
import Derived.Test.YtkcohhldmhdcfaaVzBytes
import Derived.Deep.AppendSrc
namespace Go.Proofs.Ytkcohhldmhdcfaa
open Go.RowKit

section
variable {α : Type} {K : Kind α} {F : Nat → Prop} {w w' : World} {v : Value} {xs : List α} {base e : Nat}

theorem Sl.src {P : Program} {G : Nat → Prop} {sz : Nat} {x : Value} {m : Nat} {news : List Value} {t e' : TypeId} (h : Sl G w sz x m news) (ht : P.underlying t = some (.slice e')) (h1 : ∀ u ∈ news, u.oneCell' = true) : Src P sz t x m news w := by
  obtain ⟨a, cap, rfl, h2, h3, h4, h5, h6⟩ := h.ex
  cases a with
  | some a => exact Src.ofSlice w ht a m cap news h5 (fun j u hj => by obtain ⟨ad, e1, _, e3⟩ := h6 j u hj; injection e1 with e1; subst e1; exact e3) h1
  | none =>
    have hc := h4 rfl
    obtain rfl : m = 0 := by omega
    obtain rfl : news = [] := List.eq_nil_of_length_eq_zero (by omega)
    exact Src.ofNil w ht cap

end
end Go.Proofs.Ytkcohhldmhdcfaa
