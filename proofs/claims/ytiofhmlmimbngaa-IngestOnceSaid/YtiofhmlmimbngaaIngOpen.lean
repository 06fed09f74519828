/- Chapter 19's law: spans, calls, lists of calls that came in. -/
import Derived.Test.YtiofhmlmimbngaaOpenG
import Derived.Test.YtiofhmlmimbngaaSpanC
import Derived.Lib.SmallJoins
import Derived.Deep.Strs
namespace Go.Proofs.Ytiofhmlmimbngaa
open Go.ChangeShapes Go.WideShapes Go.ChangeAt Go.RowKit

structure Act where
  kind : Int
  l : List Sp.T
  worker : Int

def actK : Kind Act where
  sz := 3
  R F w cs a := ∃ vl, cs = [.int .i64 a.kind, vl, .int .i64 a.worker] ∧ Rw spanK F w vl a.l ∧ (-9223372036854775808 ≤ a.kind ∧ a.kind ≤ 9223372036854775807)
  pos := by decide
  len := by rintro F w cs x ⟨v, rfl, _⟩; rfl
  keep := by rintro F w w' cs x ⟨v, rfl, h, b⟩ hk; exact ⟨v, rfl, h.keep hk, b⟩
  mono := by rintro F F' w cs x ⟨v, rfl, h, b⟩ hk; exact ⟨v, rfl, h.mono hk, b⟩
  one := by
    rintro F w cs x ⟨v, rfl, h, _⟩ u hu
    have := h.oneCell
    simp only [List.mem_cons, List.not_mem_nil, or_false] at hu
    rcases hu with rfl | rfl | rfl <;> first | rfl | exact this

section
variable {H : Type} {enc : TypeId × Value → H} {W : World} {base : Nat} {sp : Nat → Bool} {hd : Bool}

theorem opens_tag : Opens enc W base sp hd tagK 73 := by
  intro fuel cs x hf
  obtain ⟨y0, y1, n, _, hl, h0, h1⟩ := trod_struct2 Try.underlying73 hf
  have hc : Try.prog.cellsOf 73 = 2 := by kernel_rfl
  have hc1 : Try.prog.cellsOf 9 = 1 := by kernel_rfl
  rw [hc] at hl
  match cs, hl with
  | [c0, c1], _ =>
    simp only [List.drop_zero, List.drop_succ_cons, hc1, List.take_succ_cons, List.take_zero] at h0 h1
    obtain ⟨s0, e0, _⟩ := DataW.trod_string Try.underlying9 h0
    obtain ⟨s1, e1, _⟩ := DataW.trod_string Try.underlying9 h1
    obtain ⟨rfl⟩ := e0
    obtain ⟨rfl⟩ := e1
    exact ⟨⟨s0, s1⟩, rfl⟩

theorem opens_tags : Opens enc W base sp hd (rowK tagK) 33 := opens_rows Try.underlying33 (by kernel_rfl) opens_tag

theorem opens_span : Opens enc W base sp hd spanK 35 := by
  intro fuel cs x hf
  obtain ⟨xs, n, _, _, hl, hlen, hfs⟩ := DataW.trod_struct Try.underlying35 hf
  have hc : Try.prog.cellsOf 35 = 11 := by kernel_rfl
  have hc1 : Try.prog.cellsOf 9 = 1 := by kernel_rfl
  have hc2 : Try.prog.cellsOf 32 = 2 := by kernel_rfl
  have hc3 : Try.prog.cellsOf 30 = 1 := by kernel_rfl
  have hc4 : Try.prog.cellsOf 3 = 1 := by kernel_rfl
  have hc5 : Try.prog.cellsOf 2 = 1 := by kernel_rfl
  have hc6 : Try.prog.cellsOf 4 = 1 := by kernel_rfl
  have hc7 : Try.prog.cellsOf 33 = 1 := by kernel_rfl
  rw [hc] at hl
  have hsome : ∀ i, i < 10 → ∃ y, xs[i]? = some y := fun i hi => ⟨xs[i]'(by rw [hlen]; exact hi), List.getElem?_eq_getElem _⟩
  match cs, hl with
  | [c0, c1, c2, c3, c4, c5, c6, c7, c8, c9, c10], _ =>
    obtain ⟨y0, z0⟩ := hsome 0 (by decide)
    obtain ⟨y1, z1⟩ := hsome 1 (by decide)
    obtain ⟨y2, z2⟩ := hsome 2 (by decide)
    obtain ⟨y3, z3⟩ := hsome 3 (by decide)
    obtain ⟨y4, z4⟩ := hsome 4 (by decide)
    obtain ⟨y5, z5⟩ := hsome 5 (by decide)
    obtain ⟨y6, z6⟩ := hsome 6 (by decide)
    obtain ⟨y7, z7⟩ := hsome 7 (by decide)
    obtain ⟨y8, z8⟩ := hsome 8 (by decide)
    obtain ⟨y9, z9⟩ := hsome 9 (by decide)
    have h0 : DataW.trod enc Try.prog W base sp hd n 32 (([c0, c1, c2, c3, c4, c5, c6, c7, c8, c9, c10].drop 0).take (Try.prog.cellsOf 32)) = xs[0]? := hfs 0 _ rfl
    have h1 : DataW.trod enc Try.prog W base sp hd n 30 (([c0, c1, c2, c3, c4, c5, c6, c7, c8, c9, c10].drop 2).take (Try.prog.cellsOf 30)) = xs[1]? := hfs 1 _ rfl
    have h2 : DataW.trod enc Try.prog W base sp hd n 30 (([c0, c1, c2, c3, c4, c5, c6, c7, c8, c9, c10].drop 3).take (Try.prog.cellsOf 30)) = xs[2]? := hfs 2 _ rfl
    have h3 : DataW.trod enc Try.prog W base sp hd n 9 (([c0, c1, c2, c3, c4, c5, c6, c7, c8, c9, c10].drop 4).take (Try.prog.cellsOf 9)) = xs[3]? := hfs 3 _ rfl
    have h4 : DataW.trod enc Try.prog W base sp hd n 9 (([c0, c1, c2, c3, c4, c5, c6, c7, c8, c9, c10].drop 5).take (Try.prog.cellsOf 9)) = xs[4]? := hfs 4 _ rfl
    have h5 : DataW.trod enc Try.prog W base sp hd n 3 (([c0, c1, c2, c3, c4, c5, c6, c7, c8, c9, c10].drop 6).take (Try.prog.cellsOf 3)) = xs[5]? := hfs 5 _ rfl
    have h6 : DataW.trod enc Try.prog W base sp hd n 2 (([c0, c1, c2, c3, c4, c5, c6, c7, c8, c9, c10].drop 7).take (Try.prog.cellsOf 2)) = xs[6]? := hfs 6 _ rfl
    have h7 : DataW.trod enc Try.prog W base sp hd n 2 (([c0, c1, c2, c3, c4, c5, c6, c7, c8, c9, c10].drop 8).take (Try.prog.cellsOf 2)) = xs[7]? := hfs 7 _ rfl
    have h8 : DataW.trod enc Try.prog W base sp hd n 4 (([c0, c1, c2, c3, c4, c5, c6, c7, c8, c9, c10].drop 9).take (Try.prog.cellsOf 4)) = xs[8]? := hfs 8 _ rfl
    have h9 : DataW.trod enc Try.prog W base sp hd n 33 (([c0, c1, c2, c3, c4, c5, c6, c7, c8, c9, c10].drop 10).take (Try.prog.cellsOf 33)) = xs[9]? := hfs 9 _ rfl
    rw [z0] at h0
    rw [z1] at h1
    rw [z2] at h2
    rw [z3] at h3
    rw [z4] at h4
    rw [z5] at h5
    rw [z6] at h6
    rw [z7] at h7
    rw [z8] at h8
    rw [z9] at h9
    simp only [List.drop_zero, List.drop_succ_cons, hc1, hc2, hc3, hc4, hc5, hc6, hc7, List.take_succ_cons, List.take_zero] at h0 h1 h2 h3 h4 h5 h6 h7 h8 h9
    obtain ⟨t0, t1, m, _, _, g0, g1⟩ := trod_struct2 Try.underlying32 h0
    simp only [List.drop_zero, List.drop_succ_cons, hc3, List.take_succ_cons, List.take_zero] at g0 g1
    obtain ⟨i0, e0, _, _⟩ := DataW.trod_int Try.underlying30 g0
    obtain ⟨i1, e1, _, _⟩ := DataW.trod_int Try.underlying30 g1
    obtain ⟨i2, e2, _, _⟩ := DataW.trod_int Try.underlying30 h1
    obtain ⟨i3, e3, _, _⟩ := DataW.trod_int Try.underlying30 h2
    obtain ⟨i4, e4, _⟩ := DataW.trod_string Try.underlying9 h3
    obtain ⟨i5, e5, _⟩ := DataW.trod_string Try.underlying9 h4
    obtain ⟨i6, e6, _, _⟩ := DataW.trod_int Try.underlying3 h5
    obtain ⟨i7, e7, _, _⟩ := DataW.trod_int Try.underlying2 h6
    obtain ⟨i8, e8, _, _⟩ := DataW.trod_int Try.underlying2 h7
    obtain ⟨i9, e9, _⟩ := DataW.trod_bool Try.underlying4 h8
    obtain ⟨ts, v, e10, hv⟩ := opens_tags _ _ _ h9
    obtain ⟨rfl⟩ := e0
    obtain ⟨rfl⟩ := e1
    obtain ⟨rfl⟩ := e2
    obtain ⟨rfl⟩ := e3
    obtain ⟨rfl⟩ := e4
    obtain ⟨rfl⟩ := e5
    obtain ⟨rfl⟩ := e6
    obtain ⟨rfl⟩ := e7
    obtain ⟨rfl⟩ := e8
    obtain ⟨rfl⟩ := e9
    obtain ⟨rfl⟩ := e10
    exact ⟨⟨i0, i1, i2, i3, i4, i5, i6, i7, i8, i9, ts⟩, _, rfl, hv⟩

theorem opens_spans : Opens enc W base sp hd (rowK spanK) 37 := opens_rows Try.underlying37 (by kernel_rfl) opens_span

theorem opens_act : Opens enc W base sp hd actK 48 := by
  intro fuel cs x hf
  obtain ⟨y0, y1, y2, n, _, hl, h0, h1, h2⟩ := Go.Deep.trod_struct3 Try.underlying48 hf
  have hc : Try.prog.cellsOf 48 = 3 := by kernel_rfl
  have hc4 : Try.prog.cellsOf 3 = 1 := by kernel_rfl
  have hc7 : Try.prog.cellsOf 37 = 1 := by kernel_rfl
  rw [hc] at hl
  match cs, hl with
  | [c0, c1, c2], _ =>
    simp only [List.drop_zero, List.drop_succ_cons, hc4, hc7, List.take_succ_cons, List.take_zero] at h0 h1 h2
    obtain ⟨i0, e0, _, wf⟩ := DataW.trod_int Try.underlying3 h0
    obtain ⟨i2, e2, _, _⟩ := DataW.trod_int Try.underlying3 h2
    obtain ⟨ls, v, e1, hv⟩ := opens_spans _ _ _ h1
    obtain ⟨rfl⟩ := e0
    obtain ⟨rfl⟩ := e1
    obtain ⟨rfl⟩ := e2
    exact ⟨⟨i0, ls, i2⟩, _, rfl, hv, bounds_i64 wf⟩

theorem open_acts {r : Reach} {b0 : Nat} {v : Value} {d : DataW H} {ps : List MemPlace} (hv : Value.okWide Try.prog W r b0 45 v) (h : DataW.Trod enc Try.prog W base sp hd 45 v d ps) :
    ∃ acts, Rw actK (· < W.heap.size) W v acts := by
  obtain ⟨a0, len, cap, rfl⟩ := okWide_slice Try.underlying45 hv
  obtain ⟨fuel, hf⟩ := h
  obtain ⟨xs, v', e, hr⟩ := opens_rows (K := actK) Try.underlying45 (by kernel_rfl) opens_act _ _ _ hf
  simp [Value.cells] at e
  subst e
  exact ⟨xs, hr⟩

theorem open_setup {r : Reach} {b0 : Nat} {v : Value} {d : DataW H} {ps : List MemPlace} (hv : Value.okWide Try.prog W r b0 27 v) (h : DataW.Trod enc Try.prog W base sp hd 27 v d ps) :
    ∃ (n m : Int), v = .agg #[.int .i64 n, .int .i64 m] := by
  obtain ⟨v0, v1, y0, y1, n, rfl, _, _, h0, h1⟩ := Go.Joins.open_agg2 Try.underlying27 (by kernel_rfl) (by kernel_rfl) hv h
  obtain ⟨z0, e0, _, _⟩ := DataW.trod_int Try.underlying3 h0
  obtain ⟨z1, e1, _, _⟩ := DataW.trod_int Try.underlying3 h1
  obtain ⟨rfl⟩ := e0
  obtain ⟨rfl⟩ := e1
  exact ⟨_, _, rfl⟩
end
end Go.Proofs.Ytiofhmlmimbngaa
