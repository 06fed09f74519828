/- Rows of edits. Rows of edits that came in. -/
import Derived.Test.YtkcohhldmhdcfaaVzVeW
import Derived.Test.YtkcohhldmhdcfaaVzVgK
namespace Go.Proofs.Ytkcohhldmhdcfaa
open Go.RowKit

/-- An edit in a row. -/
def ediK : Kind Edi where
  sz := 5
  R F w cs e := ∃ dv av, cs = ediCells e dv av ∧ EdiAt F w e dv av
  pos := by decide
  len := by rintro F w cs x ⟨dv, av, rfl, _⟩; rfl
  keep := by rintro F w w' cs x ⟨dv, av, rfl, h⟩ hk; exact ⟨dv, av, rfl, h.keep hk⟩
  mono := by rintro F F' w cs x ⟨dv, av, rfl, h⟩ hk; exact ⟨dv, av, rfl, h.mono hk⟩
  one := by
    rintro F w cs x ⟨dv, av, rfl, h⟩ u hu
    obtain ⟨a1, c1, rfl⟩ := h.drops.isSlice
    obtain ⟨a2, c2, rfl⟩ := h.adds.isSlice
    simp only [ediCells, List.mem_cons, List.not_mem_nil, or_false] at hu
    rcases hu with rfl | rfl | rfl | rfl | rfl <;> rfl
def edi0 : Edi := ⟨[], [], 0, 0, 0⟩
def eat (l : List Edi) (i : Nat) : Edi := l.getD i edi0
theorem eat_eq {l : List Edi} {i : Nat} (h : i < l.length) : l[i] = eat l i := by simp [eat, h]
theorem edis_at {F : Nat → Prop} {w : World} {v : Value} {l : List Edi} (h : Rw ediK F w v l) (hne : 0 < l.length) :
    ∃ b off cap, v = .slice (some ⟨b, off, none⟩) l.length cap ∧ F b ∧ b < w.heap.size ∧ ∀ i, i < l.length → ∃ dv av, EdiAt F w (eat l i) dv av ∧ w.cell? ⟨b, off + i * 5, none⟩ = some dv ∧ w.cell? ⟨b, off + i * 5 + 1, none⟩ = some av ∧ w.cell? ⟨b, off + i * 5 + 2, none⟩ = some (.int .u64 (eat l i).next) ∧ w.cell? ⟨b, off + i * 5 + 3, none⟩ = some (.int .u64 (eat l i).seq) ∧ w.cell? ⟨b, off + i * 5 + 4, none⟩ = some (.int .u64 (eat l i).log) := by
  obtain ⟨b, off, cap, e, hF, hb, _, _, hc⟩ := h.place hne
  refine ⟨b, off, cap, e, hF, hb, fun i hi => ?_⟩
  obtain ⟨cs, ⟨dv, av, rfl, h0⟩, hes⟩ := hc i hi
  rw [eat_eq hi] at h0 hes
  exact ⟨dv, av, h0, hes 0 _ rfl, hes 1 _ rfl, hes 2 _ rfl, hes 3 _ rfl, hes 4 _ rfl⟩
end Go.Proofs.Ytkcohhldmhdcfaa

namespace Go.Proofs.Ytkcohhldmhdcfaa
open Go.ChangeShapes Go.WideShapes Go.ChangeAt Go.RowKit

section
variable {H : Type} {enc : TypeId × Value → H} {W : World} {base : Nat} {sp : Nat → Bool} {hd : Bool}
theorem opensW_ediK : OpensW enc W base sp hd ediK Edi.near 57 := by
  intro fuel cs x hf hw
  obtain ⟨e, dv, av, rfl, h1, h2⟩ := opensW_edi hf hw
  exact ⟨e, ⟨dv, av, rfl, h1⟩, h2⟩
set_option maxRecDepth 100000 in
theorem open_edis {r : Reach} {b0 : Nat} {v : Value} {d : DataW H} {ps : List MemPlace} (hv : Value.okWide Try.prog W r b0 70 v) (h : DataW.Trod enc Try.prog W base sp hd 70 v d ps)
    (hw : ∀ n ∈ d.weights Try.prog 70, n ≤ reachBytes) : ∃ l, Rw ediK (· < W.heap.size) W v l ∧ ∀ e ∈ l, e.near := by
  obtain ⟨fuel, hf⟩ := h
  obtain ⟨a, b, c, rfl⟩ := okWide_slice Try.underlying70 hv
  have hf' : DataW.trod enc Try.prog W base sp hd fuel 70 [.slice a b c] = some (d, ps) := by simpa [Value.cells] using hf
  obtain ⟨l, ⟨v', e, hr⟩, _, hq⟩ := opensW_rows (K := ediK) Try.underlying70 (by kernel_rfl) (nb := 72) (by kernel_rfl) (by decide) opensW_ediK _ _ _ hf' hw
  obtain ⟨rfl⟩ := e
  exact ⟨l, hr, hq⟩
end
end Go.Proofs.Ytkcohhldmhdcfaa
