/- Things that came in: edits, bytes. -/
import Derived.Test.YtkcohhldmhdcfaaVzPkGc
import Derived.Test.YtkcohhldmhdcfaaVzVeW
namespace Go.Proofs.Ytkcohhldmhdcfaa
open Go.ChangeShapes Go.WideShapes Go.ChangeAt Go.RowKit

section
variable {H : Type} {enc : TypeId × Value → H} {W : World} {base : Nat} {sp : Nat → Bool} {hd : Bool}
theorem trod_struct5 {P : Program} {t : TypeId} {f0 f1 f2 f3 f4 : Field} {fuel : Nat} {cs : List Value} {x : DataW H × List MemPlace} (ht : P.underlying t = some (.struct #[f0, f1, f2, f3, f4])) (h : DataW.trod enc P W base sp hd fuel t cs = some x) :
    ∃ (y0 y1 y2 y3 y4 : DataW H × List MemPlace) (n : Nat), x.1 = .agg [y0.1, y1.1, y2.1, y3.1, y4.1] ∧ cs.length = P.cellsOf t ∧ DataW.trod enc P W base sp hd n f0.type ((cs.drop f0.offset).take (P.cellsOf f0.type)) = some y0 ∧
      DataW.trod enc P W base sp hd n f1.type ((cs.drop f1.offset).take (P.cellsOf f1.type)) = some y1 ∧ DataW.trod enc P W base sp hd n f2.type ((cs.drop f2.offset).take (P.cellsOf f2.type)) = some y2 ∧
      DataW.trod enc P W base sp hd n f3.type ((cs.drop f3.offset).take (P.cellsOf f3.type)) = some y3 ∧ DataW.trod enc P W base sp hd n f4.type ((cs.drop f4.offset).take (P.cellsOf f4.type)) = some y4 := by
  obtain ⟨xs, n, _, rfl, hl, hlen, hf⟩ := DataW.trod_struct ht h
  match xs, hlen with
  | [y0, y1, y2, y3, y4], _ => exact ⟨y0, y1, y2, y3, y4, n, by simp, hl, by simpa using hf 0 f0 rfl, by simpa using hf 1 f1 rfl, by simpa using hf 2 f2 rfl, by simpa using hf 3 f3 rfl, by simpa using hf 4 f4 rfl⟩
set_option maxRecDepth 100000 in
theorem opensW_drop : OpensW enc W base sp hd dropK (fun _ => True) 100 := by
  intro fuel cs x hf _
  obtain ⟨y0, y1, n, hx, hl, h0, h1⟩ := Go.ChangeShapes.trod_struct2 Try.underlying100 hf
  have hc : Try.prog.cellsOf 100 = 2 := by kernel_rfl
  have hc3 : Try.prog.cellsOf 23 = 1 := by kernel_rfl
  have hc4 : Try.prog.cellsOf 3 = 1 := by kernel_rfl
  rw [hc] at hl
  match cs, hl with
  | [c0, c1], _ =>
    simp only [List.drop_zero, List.drop_succ_cons, hc3, hc4, List.take_succ_cons, List.take_zero] at h0 h1
    obtain ⟨i0, e0, _, g0⟩ := DataW.trod_int Try.underlying3 h0
    obtain ⟨i1, e1, _, g1⟩ := DataW.trod_int Try.underlying23 h1
    obtain ⟨rfl⟩ := e0
    obtain ⟨rfl⟩ := e1
    exact ⟨(i0, i1), ⟨rfl, i64_wf g0, u64_wf g1⟩, trivial⟩
set_option maxRecDepth 100000 in
theorem opensW_add : OpensW enc W base sp hd addK (fun a => Fil.near a.2) 104 := by
  intro fuel cs x hf hw
  obtain ⟨y0, y1, n, hx, hl, h0, h1⟩ := Go.ChangeShapes.trod_struct2 Try.underlying104 hf
  have hc : Try.prog.cellsOf 104 = 7 := by kernel_rfl
  have hc3 : Try.prog.cellsOf 42 = 6 := by kernel_rfl
  have hc4 : Try.prog.cellsOf 3 = 1 := by kernel_rfl
  rw [hc] at hl
  match cs, hl with
  | [c0, c1, c2, c3, c4, c5, c6], _ =>
    simp only [List.drop_zero, List.drop_succ_cons, hc3, hc4, List.take_succ_cons, List.take_zero] at h0 h1
    obtain ⟨i0, e0, _, g0⟩ := DataW.trod_int Try.underlying3 h0
    obtain ⟨rfl⟩ := e0
    obtain ⟨f, ⟨vl, vm, e1, k1, k2, k3⟩, hq⟩ := opensW_fil _ _ _ h1 fun n hn => hw n (by
      rw [hx]
      simp only [DataW.weights, Try.underlying104]
      simp only [List.map_cons, List.map_nil, DataW.weightsEach, List.append_nil, List.mem_append]
      exact .inr hn)
    refine ⟨(i0, f), ⟨vl, vm, ?_, i64_wf g0, k1, k2, k3⟩, hq⟩
    show _ :: _ = _ :: _
    rw [e1]
theorem opensW_drops : OpensW enc W base sp hd (rowK dropK) (fun l => l.length ≤ reachBytes ∧ ∀ d ∈ l, True) 54 := opensW_rows Try.underlying54 (by kernel_rfl) (nb := 16) (by kernel_rfl) (by decide) opensW_drop
theorem opensW_adds : OpensW enc W base sp hd (rowK addK) (fun l => l.length ≤ reachBytes ∧ ∀ a ∈ l, Fil.near a.2) 55 := opensW_rows Try.underlying55 (by kernel_rfl) (nb := 88) (by kernel_rfl) (by decide) opensW_add
/-- What an edit that came in weighs. -/
def Edi.near (e : Edi) : Prop := e.drops.length ≤ 140737488355328 ∧ e.adds.length ≤ 140737488355328 ∧ ∀ a ∈ e.adds, a.2.least.length ≤ 140737488355328 ∧ a.2.most.length ≤ 140737488355328
set_option maxRecDepth 100000 in
theorem opensW_edi {fuel : Nat} {cs : List Value} {x : DataW H × List MemPlace} (hf : DataW.trod enc Try.prog W base sp hd fuel 57 cs = some x) (hw : ∀ n ∈ x.1.weights Try.prog 57, n ≤ reachBytes) :
    ∃ (e : Edi) (dv av : Value), cs = ediCells e dv av ∧ EdiAt (· < W.heap.size) W e dv av ∧ e.near := by
  obtain ⟨y0, y1, y2, y3, y4, n, hx, hl, h0, h1, h2, h3, h4⟩ := trod_struct5 Try.underlying57 hf
  have hc : Try.prog.cellsOf 57 = 5 := by kernel_rfl
  have hc1 : Try.prog.cellsOf 54 = 1 := by kernel_rfl
  have hc2 : Try.prog.cellsOf 55 = 1 := by kernel_rfl
  have hc3 : Try.prog.cellsOf 23 = 1 := by kernel_rfl
  have hr := reachBytes_lt
  rw [hc] at hl
  match cs, hl with
  | [c0, c1, c2, c3, c4], _ =>
    simp only [List.drop_zero, List.drop_succ_cons, hc1, hc2, hc3, List.take_succ_cons, List.take_zero] at h0 h1 h2 h3 h4
    obtain ⟨i2, e2, _, g2⟩ := DataW.trod_int Try.underlying23 h2
    obtain ⟨i3, e3, _, g3⟩ := DataW.trod_int Try.underlying23 h3
    obtain ⟨i4, e4, _, g4⟩ := DataW.trod_int Try.underlying23 h4
    obtain ⟨rfl⟩ := e2
    obtain ⟨rfl⟩ := e3
    obtain ⟨rfl⟩ := e4
    obtain ⟨ds, ⟨u, e0, hrd⟩, hd1, _⟩ := opensW_drops _ _ _ h0 fun n hn => hw n (by
      rw [hx]
      simp only [DataW.weights, Try.underlying57]
      simp only [List.map_cons, List.map_nil, DataW.weightsEach, List.append_nil, List.mem_append]
      exact .inl hn)
    obtain ⟨ad, ⟨u1, e1, hra⟩, ha1, ha2⟩ := opensW_adds _ _ _ h1 fun n hn => hw n (by
      rw [hx]
      simp only [DataW.weights, Try.underlying57]
      simp only [List.map_cons, List.map_nil, DataW.weightsEach, List.append_nil, List.mem_append]
      exact .inr (.inl hn))
    obtain ⟨rfl⟩ := e0
    obtain ⟨rfl⟩ := e1
    exact ⟨⟨ds, ad, i2, i3, i4⟩, _, _, rfl, ⟨hrd, hra, u64_wf g2, u64_wf g3, u64_wf g4⟩, Nat.le_trans hd1 (by omega), Nat.le_trans ha1 (by omega), fun a ha => ⟨Nat.le_trans (ha2 a ha).1 (by omega), Nat.le_trans (ha2 a ha).2 (by omega)⟩⟩
end
theorem edi_nd {e : Edi} (h : e.near) : e.drops.length ≤ 140737488355328 := h.1
theorem edi_na {e : Edi} (h : e.near) : e.adds.length ≤ 140737488355328 := h.2.1
theorem edi_nk {e : Edi} (h : e.near) : ∀ a ∈ e.adds, a.2.least.length ≤ 140737488355328 ∧ a.2.most.length ≤ 140737488355328 := h.2.2
end Go.Proofs.Ytkcohhldmhdcfaa
