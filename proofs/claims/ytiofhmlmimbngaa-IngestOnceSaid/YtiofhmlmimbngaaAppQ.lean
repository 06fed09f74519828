/- append onto a slice that may begin within its block (q = q[1:]; q = append(q, x)): elements of one cell. -/
import Derived.Test.YtiofhmlmimbngaaEls
import Derived.Deep.AppendSrc
namespace Go.Proofs.Ytiofhmlmimbngaa
open Go.RowKit

theorem run_append_tail {P : Program} (t ty e : TypeId) (i : TypeInfo) (z : Value) (ht : P.underlying t = some (.slice e)) (hi : P.info? e = some i) (hz : i.zero = some z) (hs1 : i.size = 1) (hzs : z.cells.size = 1) (hb : i.bytes ≤ 1000)
    (w : World) (b off n cap : Nat) (qc : Array Value) (hq : Blk w b qc e) (hcap : n ≤ cap) (hfit : off + cap ≤ qc.size) (hn : n ≤ 1000000)
    (sb : Nat) (ov : Value) (hsrc : w.cell? ⟨sb, 0, none⟩ = some ov) (h1 : ov.oneCell' = true) :
    ∃ v' w', (Builtin.append_ #[t, t] ty #[.slice (some ⟨b, off, none⟩) n cap, .slice (some ⟨sb, 0, none⟩) 1 1]).run P w = .ok v' w' ∧
      ((n + 1 ≤ cap ∧ v' = .slice (some ⟨b, off, none⟩) (n + 1) cap ∧ w' = w.setCell ⟨b, off + n, none⟩ ov) ∨
       (∃ cap' arr, v' = .slice (some ⟨w.heap.size, 0, none⟩) (n + 1) cap' ∧ w' = w.drew.alloc (.cells arr e) ∧ n + 1 ≤ cap' ∧ cap' ≤ maxLen ∧ cap' ≤ arr.size ∧ (∀ j, j < n → arr[j]? = qc[off + j]?) ∧ arr[n]? = some ov)) := by
  have hs : Src P i.size t (.slice (some ⟨sb, 0, none⟩) 1 1) 1 [ov] w := Src.ofSlice w ht ⟨sb, 0, none⟩ 1 1 [ov] (by simp [hs1]) (fun j u hj => by
    match j, hj with
    | 0, hj =>
      simp only [List.getElem?_cons_zero, Option.some.injEq] at hj
      subst hj
      exact hsrc) (by simp [h1])
  by_cases hroom : n + 1 ≤ cap
  · have hr := run_append_room_src (P := P) w t t ty e i ht hi b off n cap _ 1 [ov] hs hroom (fun j hj => by
      simp only [List.length_singleton] at hj
      obtain rfl : j = 0 := by omega
      rw [hs1, Nat.mul_one, Nat.add_zero, hq.cell (i := off + n) (v := qc[off + n]'(by omega)) (by simp)]
      rfl) (fun j hj => hq.free _)
    rw [hs1, Nat.mul_one] at hr
    refine ⟨_, _, hr, .inl ⟨hroom, rfl, ?_⟩⟩
    rfl
  · have hl : ((qc.toList.drop off).take n).length = n := by simp; omega
    have hold : (Builtin.firstCells i.size n (.slice (some ⟨b, off, none⟩) n cap)).run P w.drew = .ok ((qc.toList.drop off).take n).toArray w.drew := by
      rw [hs1]
      refine run_firstCells_some w.drew 1 n ⟨b, off, none⟩ n cap _ (by rw [hl, Nat.mul_one]) (fun j u hj => ?_)
      rw [add_plain']
      refine hq.drew.cell ?_
      have hj2 : j < n := by
        rcases Nat.lt_or_ge j n with h | h
        · exact h
        · rw [List.getElem?_eq_none (by omega)] at hj; cases hj
      rw [List.getElem?_take, if_pos hj2, List.getElem?_drop] at hj
      simpa using hj
    have hr := run_append_grow_src (P := P) w t t ty e i z ht hi hz (some ⟨b, off, none⟩) n cap _ hold _ 1 [ov] hs (by omega) (by omega) (growslice_fits (by omega) (by
      have : (n + 1) * i.bytes ≤ 1000001 * 1000 := Nat.mul_le_mul (by omega) hb
      omega))
    have hge := grownCap_ge w (n + 1) cap e
    refine ⟨_, _, hr, .inr ⟨_, _, rfl, rfl, hge, grownCap_le_maxLen w (n + 1) cap e (by simp only [maxLen]; omega), ?_, fun j hj => ?_, ?_⟩⟩
    · simp only [Array.size_append, List.size_toArray, List.length_append, hl, List.length_singleton, size_zeroCells, hzs]
      omega
    · rw [Array.getElem?_append_left (by simp only [List.size_toArray, List.length_append, hl, List.length_singleton]; omega)]
      simp only [List.getElem?_toArray]
      rw [List.getElem?_append_left (by omega), List.getElem?_take, if_pos hj, List.getElem?_drop]
      simp
    · rw [Array.getElem?_append_left (by simp only [List.size_toArray, List.length_append, hl, List.length_singleton]; omega)]
      simp only [List.getElem?_toArray]
      rw [List.getElem?_append_right (by omega), hl]
      simp
end Go.Proofs.Ytiofhmlmimbngaa
