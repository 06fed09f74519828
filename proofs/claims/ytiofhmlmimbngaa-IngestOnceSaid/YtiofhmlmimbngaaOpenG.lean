/- Things that came in: whoever opens a thing opens a slice of them. -/
import Derived.Test.YtiofhmlmimbngaaLaw0
import Derived.Test.YtiofhmlmimbngaaEls
import Derived.Deep.Slices
namespace Go.Proofs.Ytiofhmlmimbngaa
open Go.ChangeShapes Go.WideShapes Go.ChangeAt Go.RowKit

section
variable {H : Type} {enc : TypeId × Value → H} {W : World} {base : Nat} {sp : Nat → Bool} {hd : Bool} {α : Type}

def Opens (enc : TypeId × Value → H) (W : World) (base : Nat) (sp : Nat → Bool) (hd : Bool) (K : Kind α) (t : TypeId) : Prop :=
  ∀ (fuel : Nat) (cs : List Value) (x : DataW H × List MemPlace), DataW.trod enc Try.prog W base sp hd fuel t cs = some x → ∃ a, K.R (· < W.heap.size) W cs a

theorem els_upto {K : Kind α} (a : Addr) (m : Nat) (h : ∀ i, i < m → ∃ (es : List Value) (x : α), K.R (· < W.heap.size) W es x ∧ ∀ j, j < K.sz → W.cell? (a.add (i * K.sz + j)) = es[j]?) :
    ∃ cs xs, xs.length = m ∧ Els K (· < W.heap.size) W cs xs ∧ ∀ j, j < m * K.sz → W.cell? (a.add j) = cs[j]? := by
  induction m with
  | zero => exact ⟨[], [], rfl, rfl, fun j hj => by omega⟩
  | succ m ih =>
    obtain ⟨cs, xs, h1, h2, h3⟩ := ih fun i hi => h i (by omega)
    obtain ⟨es, x, g1, g2⟩ := h m (by omega)
    have hcl := h2.len
    rw [h1] at hcl
    refine ⟨cs ++ es, xs ++ [x], by simp [h1], (Els.single g1).append h2, fun j hj => ?_⟩
    by_cases hjm : j < m * K.sz
    · rw [h3 j hjm, List.getElem?_append_left (by omega)]
    · rw [List.getElem?_append_right (by omega), hcl]
      have hj2 : j - m * K.sz < K.sz := by rw [Nat.add_mul] at hj; omega
      rw [← g2 _ hj2, show m * K.sz + (j - m * K.sz) = j by omega]

theorem opens_rows {K : Kind α} {t e : TypeId} (ht : Try.prog.underlying t = some (.slice e)) (hc : Try.prog.cellsOf e = K.sz) (ho : Opens enc W base sp hd K e) : Opens enc W base sp hd (rowK K) t := by
  intro fuel cs x hf
  rcases Go.Deep.open_slice ht hf with ⟨rfl, _⟩ | ⟨a, len, cap, m, n, D, Pl, rfl, _, hl, hm, hmm, _, hel⟩
  · exact ⟨[], _, rfl, Rw.nil _ _ _⟩
  · have hlm : len ≤ m := by rw [hmm]; split <;> omega
    obtain ⟨cs, xs, h1, h2, h3⟩ := els_upto (K := K) (W := W) a len fun i hi => by
      obtain ⟨cs', g1, g2⟩ := hel i (by omega)
      obtain ⟨x, g3⟩ := ho _ _ _ g2
      refine ⟨cs', x, g3, fun j hj => ?_⟩
      rw [hc] at g1
      obtain ⟨_, _, g4⟩ := World.cells?_some g1
      have := g4 j hj
      rwa [Addr.add_add] at this
    have hcl := h2.len
    rw [h1] at hcl
    refine ⟨xs, _, rfl, cs, ⟨some a, cap, by rw [h1], by omega, hm, by simp, by rw [h1]; exact hcl, fun j u hj => ?_⟩, h2⟩
    have hj2 : j < len * K.sz := by
      rcases Nat.lt_or_ge j (len * K.sz) with h | h
      · exact h
      · rw [List.getElem?_eq_none (by omega)] at hj; cases hj
    have hcc := h3 j hj2
    rw [hj] at hcc
    refine ⟨a, rfl, ?_, hcc⟩
    have := World.block_lt_of_cell? _ _ hcc
    rw [Addr.add_block] at this
    exact this
end
end Go.Proofs.Ytiofhmlmimbngaa
