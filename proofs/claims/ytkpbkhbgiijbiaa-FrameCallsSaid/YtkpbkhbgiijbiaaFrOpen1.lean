/- A frame that came in. -/
import Derived.Test.YtkpbkhbgiijbiaaFrOpen
namespace Go.Proofs.Ytkpbkhbgiijbiaa
open Go.ChangeShapes Go.WideShapes Go.ChangeAt Go.RowKit

theorem open_frame {H : Type} {enc : TypeId × Value → H} {W : World} {base : Nat} {sp : Nat → Bool} {hd : Bool} {r : Reach} {b0 : Nat} {v : Value} {d : DataW H} {ps : List MemPlace} (hv : Value.okWide Try.prog W r b0 39 v) (h : DataW.Trod enc Try.prog W base sp hd 39 v d ps)
    (hw : ∀ n ∈ d.weights Try.prog 39, n ≤ reachBytes) : ∃ (kind : UInt8) (vf : Value) (body : List UInt8), v = .agg #[.int .u8 (kind.toNat : Int), vf] ∧ Bytes (· < W.heap.size) W vf body := by
  obtain ⟨cs, rfl, hsz⟩ := okWide_struct Try.underlying39 hv
  obtain ⟨fuel, hf⟩ := h
  obtain ⟨vb, f, e, hb, _⟩ := frame_of_trod hf hw
  refine ⟨f.kind, vb, f.body, ?_, hb⟩
  simp only [Value.cells] at e
  congr 1
  exact Array.ext' (by simpa using e)
end Go.Proofs.Ytkpbkhbgiijbiaa
