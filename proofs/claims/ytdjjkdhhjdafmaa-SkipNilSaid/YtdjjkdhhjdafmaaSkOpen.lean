/- Chapter 7's law: a call that came in, as far as its slices' values. -/
import Derived.Test.YtdjjkdhhjdafmaaSkNil
import Derived.Test.YtdjjkdhhjdafmaaLaw0
import Derived.Lib.SmallJoins
import Derived.Deep.Slices
namespace Go.Proofs.Ytdjjkdhhjdafmaa
open Go.ChangeShapes Go.WideShapes Go.ChangeAt Go.RowKit

section
variable {H : Type} {enc : TypeId × Value → H} {W : World} {base : Nat} {sp : Nat → Bool} {hd : Bool}

theorem slice_shape {fuel : Nat} {c : Value} {x : DataW H × List MemPlace} (h : DataW.trod enc Try.prog W base sp hd fuel 31 [c] = some x) : ∃ a n k, c = .slice a n k := by
  rcases Go.Deep.open_slice Try.underlying31 h with ⟨hcs, _⟩ | ⟨a, len, cap, m, n, D, Pl, hcs, _⟩
  · obtain ⟨rfl⟩ := hcs
    exact ⟨_, _, _, rfl⟩
  · obtain ⟨rfl⟩ := hcs
    exact ⟨_, _, _, rfl⟩

theorem ent_shape {fuel : Nat} {cs : List Value} {x : DataW H × List MemPlace} (hf : DataW.trod enc Try.prog W base sp hd fuel 34 cs = some x) :
    ∃ a0 n0 c0 s k a1 n1 c1, cs = [.slice a0 n0 c0, .int .u64 s, .int .i64 k, .slice a1 n1 c1] := by
  obtain ⟨xs, n, _, _, hl, hlen, hfs⟩ := DataW.trod_struct Try.underlying34 hf
  have hc : Try.prog.cellsOf 34 = 4 := by kernel_rfl
  have hc1 : Try.prog.cellsOf 31 = 1 := by kernel_rfl
  have hc3 : Try.prog.cellsOf 32 = 1 := by kernel_rfl
  have hc4 : Try.prog.cellsOf 3 = 1 := by kernel_rfl
  rw [hc] at hl
  have hsome : ∀ i, i < 4 → ∃ y, xs[i]? = some y := fun i hi => ⟨xs[i]'(by rw [hlen]; exact hi), List.getElem?_eq_getElem _⟩
  match cs, hl with
  | [c0, c1, c2, c3], _ =>
    obtain ⟨y0, z0⟩ := hsome 0 (by decide)
    obtain ⟨y1, z1⟩ := hsome 1 (by decide)
    obtain ⟨y2, z2⟩ := hsome 2 (by decide)
    obtain ⟨y3, z3⟩ := hsome 3 (by decide)
    have h0 : DataW.trod enc Try.prog W base sp hd n 31 (([c0, c1, c2, c3].drop 0).take (Try.prog.cellsOf 31)) = xs[0]? := hfs 0 _ rfl
    have h1 : DataW.trod enc Try.prog W base sp hd n 32 (([c0, c1, c2, c3].drop 1).take (Try.prog.cellsOf 32)) = xs[1]? := hfs 1 _ rfl
    have h2 : DataW.trod enc Try.prog W base sp hd n 3 (([c0, c1, c2, c3].drop 2).take (Try.prog.cellsOf 3)) = xs[2]? := hfs 2 _ rfl
    have h3 : DataW.trod enc Try.prog W base sp hd n 31 (([c0, c1, c2, c3].drop 3).take (Try.prog.cellsOf 31)) = xs[3]? := hfs 3 _ rfl
    rw [z0] at h0
    rw [z1] at h1
    rw [z2] at h2
    rw [z3] at h3
    simp only [List.drop_zero, List.drop_succ_cons, hc1, hc3, hc4, List.take_succ_cons, List.take_zero] at h0 h1 h2 h3
    obtain ⟨a0, n0, k0, rfl⟩ := slice_shape h0
    obtain ⟨i1, e1, _, _⟩ := DataW.trod_int Try.underlying32 h1
    obtain ⟨i2, e2, _, _⟩ := DataW.trod_int Try.underlying3 h2
    obtain ⟨a3, n3, k3, rfl⟩ := slice_shape h3
    obtain ⟨rfl⟩ := e1
    obtain ⟨rfl⟩ := e2
    exact ⟨_, _, _, _, _, _, _, _, rfl⟩

theorem act_shape {fuel : Nat} {cs : List Value} {x : DataW H × List MemPlace} (hf : DataW.trod enc Try.prog W base sp hd fuel 52 cs = some x) :
    ∃ a0 n0 c0 s k a1 n1 c1 hh a2 n2 c2 at_ nn, cs = (actCells a0 n0 c0 s k a1 n1 c1 hh a2 n2 c2 at_ nn).toList := by
  obtain ⟨xs, n, _, _, hl, hlen, hfs⟩ := DataW.trod_struct Try.underlying52 hf
  have hc : Try.prog.cellsOf 52 = 8 := by kernel_rfl
  have hc0 : Try.prog.cellsOf 34 = 4 := by kernel_rfl
  have hc1 : Try.prog.cellsOf 31 = 1 := by kernel_rfl
  have hc3 : Try.prog.cellsOf 32 = 1 := by kernel_rfl
  have hc4 : Try.prog.cellsOf 3 = 1 := by kernel_rfl
  rw [hc] at hl
  have hsome : ∀ i, i < 5 → ∃ y, xs[i]? = some y := fun i hi => ⟨xs[i]'(by rw [hlen]; exact hi), List.getElem?_eq_getElem _⟩
  match cs, hl with
  | [c0, c1, c2, c3, c4, c5, c6, c7], _ =>
    obtain ⟨y0, z0⟩ := hsome 0 (by decide)
    obtain ⟨y1, z1⟩ := hsome 1 (by decide)
    obtain ⟨y2, z2⟩ := hsome 2 (by decide)
    obtain ⟨y3, z3⟩ := hsome 3 (by decide)
    obtain ⟨y4, z4⟩ := hsome 4 (by decide)
    have h0 : DataW.trod enc Try.prog W base sp hd n 34 (([c0, c1, c2, c3, c4, c5, c6, c7].drop 0).take (Try.prog.cellsOf 34)) = xs[0]? := hfs 0 _ rfl
    have h1 : DataW.trod enc Try.prog W base sp hd n 3 (([c0, c1, c2, c3, c4, c5, c6, c7].drop 4).take (Try.prog.cellsOf 3)) = xs[1]? := hfs 1 _ rfl
    have h2 : DataW.trod enc Try.prog W base sp hd n 31 (([c0, c1, c2, c3, c4, c5, c6, c7].drop 5).take (Try.prog.cellsOf 31)) = xs[2]? := hfs 2 _ rfl
    have h3 : DataW.trod enc Try.prog W base sp hd n 32 (([c0, c1, c2, c3, c4, c5, c6, c7].drop 6).take (Try.prog.cellsOf 32)) = xs[3]? := hfs 3 _ rfl
    have h4 : DataW.trod enc Try.prog W base sp hd n 3 (([c0, c1, c2, c3, c4, c5, c6, c7].drop 7).take (Try.prog.cellsOf 3)) = xs[4]? := hfs 4 _ rfl
    rw [z0] at h0
    rw [z1] at h1
    rw [z2] at h2
    rw [z3] at h3
    rw [z4] at h4
    simp only [List.drop_zero, List.drop_succ_cons, hc0, hc1, hc3, hc4, List.take_succ_cons, List.take_zero] at h0 h1 h2 h3 h4
    obtain ⟨a0, n0, k0, s, k, a1, n1, k1, e0⟩ := ent_shape h0
    obtain ⟨i1, e1, _, _⟩ := DataW.trod_int Try.underlying3 h1
    obtain ⟨a2, n2, k2, rfl⟩ := slice_shape h2
    obtain ⟨i3, e3, _, _⟩ := DataW.trod_int Try.underlying32 h3
    obtain ⟨i4, e4, _, _⟩ := DataW.trod_int Try.underlying3 h4
    obtain ⟨rfl⟩ := e0
    obtain ⟨rfl⟩ := e1
    obtain ⟨rfl⟩ := e3
    obtain ⟨rfl⟩ := e4
    exact ⟨_, _, _, _, _, _, _, _, _, _, _, _, _, _, rfl⟩

theorem open_act7 {r : Reach} {b0 : Nat} {v : Value} {d : DataW H} {ps : List MemPlace} (hv : Value.okWide Try.prog W r b0 52 v) (h : DataW.Trod enc Try.prog W base sp hd 52 v d ps) :
    ∃ a0 n0 c0 s k a1 n1 c1 hh a2 n2 c2 at_ nn, v = .agg (actCells a0 n0 c0 s k a1 n1 c1 hh a2 n2 c2 at_ nn) := by
  obtain ⟨cs, rfl, _⟩ := okWide_struct Try.underlying52 hv
  obtain ⟨fuel, hf⟩ := h
  obtain ⟨a0, n0, c0, s, k, a1, n1, c1, hh, a2, n2, c2, at_, nn, e⟩ := act_shape hf
  refine ⟨a0, n0, c0, s, k, a1, n1, c1, hh, a2, n2, c2, at_, nn, ?_⟩
  simp only [Value.cells] at e
  congr 1
  exact Array.ext' (by simpa using e)
end
end Go.Proofs.Ytdjjkdhhjdafmaa
