/- Chapter 11's laws: what came in. -/
import Derived.Test.YtmpapipobjoboaaOpenW
import Derived.Test.YtmpapipobjoboaaMgSm
namespace Go.Proofs.Ytmpapipobjoboaa
open Go.ChangeShapes Go.WideShapes Go.ChangeAt Go.RowKit

section
variable {H : Type} {enc : TypeId × Value → H} {W : World} {base : Nat} {sp : Nat → Bool} {hd : Bool}

theorem open_rows {r : Reach} {b0 : Nat} {v : Value} {d : DataW H} {ps : List MemPlace} (hv : Value.okWide Try.prog W r b0 22 v) (h : DataW.Trod enc Try.prog W base sp hd 22 v d ps)
    (hw : ∀ n ∈ d.weights Try.prog 22, n ≤ reachBytes) : ∃ rs, Rw (rowK entK) (· < W.heap.size) W v rs ∧ Near rs := by
  obtain ⟨a0, len, cap, rfl⟩ := okWide_slice Try.underlying22 hv
  obtain ⟨fuel, hf⟩ := h
  obtain ⟨xs, ⟨v', e, hr⟩, _, hq⟩ := opensW_rows (K := rowK entK) Try.underlying22 (by kernel_rfl) (nb := 24) (by kernel_rfl) (by decide) opensW_entries _ _ _ hf hw
  simp [Value.cells] at e
  subst e
  exact ⟨xs, hr, fun r hr => ⟨Nat.le_trans (hq r hr).1 (by decide), fun e he => ⟨Nat.le_trans ((hq r hr).2 e he).1 (by decide), Nat.le_trans ((hq r hr).2 e he).2 (by decide)⟩⟩⟩

theorem open_bytesW {r : Reach} {b0 : Nat} {v : Value} {d : DataW H} {ps : List MemPlace} (hv : Value.okWide Try.prog W r b0 26 v) (h : DataW.Trod enc Try.prog W base sp hd 26 v d ps)
    (hw : ∀ n ∈ d.weights Try.prog 26, n ≤ reachBytes) : ∃ bs, Bytes (· < W.heap.size) W v bs ∧ bs.length ≤ 140737488355328 := by
  obtain ⟨a0, len, cap, rfl⟩ := okWide_slice Try.underlying26 hv
  obtain ⟨fuel, hf⟩ := h
  have hf' : DataW.trod enc Try.prog W base sp hd fuel 26 [.slice a0 len cap] = some (d, ps) := by simpa [Value.cells] using hf
  obtain ⟨bs, hb, hbw⟩ := bytes_of_trod hf'
  refine ⟨bs, hb, ?_⟩
  rcases hbw with rfl | ⟨n, hn, hle⟩
  · exact Nat.zero_le _
  · exact Nat.le_trans hle (Nat.le_trans (hw n hn) (by decide))

set_option maxRecDepth 100000 in
theorem open_u64 {r : Reach} {b0 : Nat} {v : Value} {d : DataW H} {ps : List MemPlace} {t : TypeId} (ht : Try.prog.underlying t = some (.int .u64))
    (hv : Value.okWide Try.prog W r b0 t v) (h : DataW.Trod enc Try.prog W base sp hd t v d ps) : ∃ x : Int, v = .int .u64 x := by
  obtain ⟨n, rfl, _, _, _⟩ := open_int ht hv h
  exact ⟨n, rfl⟩
end
end Go.Proofs.Ytmpapipobjoboaa
