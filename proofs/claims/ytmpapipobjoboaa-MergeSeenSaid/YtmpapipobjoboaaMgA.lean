/- Merge: a heap's methods, called through its interface: which function they are. -/
import Derived.Test.YtmpapipobjoboaaMgBase
namespace Go.Proofs.Ytmpapipobjoboaa
open Go.RowKit

theorem meth_len {b off : Nat} {v : Value} {w : World} (h : w.cell? ⟨b, off, none⟩ = some v) :
    (method 220 82 (.pointer (some ⟨b, off, none⟩)) "Len").run Try.prog w = .ok (101, v) w := by
  have h1 : (method 220 82 (.pointer (some ⟨b, off, none⟩)) "Len").run Try.prog w = ((load ⟨b, off, none⟩ : Sem Value) >>= fun v => pure (101, v)).run Try.prog w := by kernel_rfl
  rw [h1]
  simp [h, go_sem]
theorem meth_pop (b off : Nat) (w : World) :
    (method 220 82 (.pointer (some ⟨b, off, none⟩)) "Pop").run Try.prog w = .ok (104, .pointer (some ⟨b, off, none⟩)) w := by kernel_rfl
end Go.Proofs.Ytmpapipobjoboaa
