/- Chapter 15's laws: what came in. -/
import Derived.Test.YtmpapipobjoboaaMgOpen
import Derived.Test.YtmpapipobjoboaaCoGa
namespace Go.Proofs.Ytmpapipobjoboaa
open Go.ChangeShapes Go.WideShapes Go.ChangeAt Go.RowKit

section
variable {H : Type} {enc : TypeId × Value → H} {W : World} {base : Nat} {sp : Nat → Bool} {hd : Bool}
theorem opensW_un : OpensW enc W base sp hd unK (fun _ => True) 27 := by
  intro fuel cs x hf _
  obtain ⟨n, e, _, _⟩ := DataW.trod_int Try.underlying27 hf
  exact ⟨n, e, trivial⟩
theorem open_uns {r : Reach} {b0 : Nat} {v : Value} {d : DataW H} {ps : List MemPlace} (hv : Value.okWide Try.prog W r b0 35 v) (h : DataW.Trod enc Try.prog W base sp hd 35 v d ps)
    (hw : ∀ n ∈ d.weights Try.prog 35, n ≤ reachBytes) : ∃ ns, Rw unK (· < W.heap.size) W v ns := by
  obtain ⟨a0, len, cap, rfl⟩ := okWide_slice Try.underlying35 hv
  obtain ⟨fuel, hf⟩ := h
  obtain ⟨xs, ⟨v', e, hr⟩, _, _⟩ := opensW_rows (K := unK) Try.underlying35 (by kernel_rfl) (nb := 8) (by kernel_rfl) (by decide) opensW_un _ _ _ hf hw
  simp [Value.cells] at e
  subst e
  exact ⟨xs, hr⟩
end
end Go.Proofs.Ytmpapipobjoboaa
