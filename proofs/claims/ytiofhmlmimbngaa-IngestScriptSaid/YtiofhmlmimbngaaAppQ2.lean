/- append of a batch onto the document's queue. -/
import Derived.Test.YtiofhmlmimbngaaRIntake
namespace Go.Proofs.Ytiofhmlmimbngaa
open Go.RowKit

theorem run_append_tail_nil {P : Program} (t ty e : TypeId) (i : TypeInfo) (z : Value) (ht : P.underlying t = some (.slice e)) (hi : P.info? e = some i) (hz : i.zero = some z) (hs1 : i.size = 1) (hzs : z.cells.size = 1) (hb : i.bytes ≤ 1000)
    (w : World) (sb : Nat) (ov : Value) (hsrc : w.cell? ⟨sb, 0, none⟩ = some ov) (h1 : ov.oneCell' = true) :
    ∃ cap' arr, (Builtin.append_ #[t, t] ty #[.slice none 0 0, .slice (some ⟨sb, 0, none⟩) 1 1]).run P w = .ok (.slice (some ⟨w.heap.size, 0, none⟩) 1 cap') (w.drew.alloc (.cells arr e)) ∧ 1 ≤ cap' ∧ cap' ≤ maxLen ∧ cap' ≤ arr.size ∧ arr[0]? = some ov := by
  have hs : Src P i.size t (.slice (some ⟨sb, 0, none⟩) 1 1) 1 [ov] w := Src.ofSlice w ht ⟨sb, 0, none⟩ 1 1 [ov] (by simp [hs1]) (fun j u hj => by
    match j, hj with
    | 0, hj =>
      simp only [List.getElem?_cons_zero, Option.some.injEq] at hj
      subst hj
      exact hsrc) (by simp [h1])
  have hr := run_append_grow_src (P := P) w t t ty e i z ht hi hz none 0 0 [] (run_firstCells_none w.drew i.size 0 0 0) _ 1 [ov] hs (by omega) (by omega) (growslice_fits (by omega) (by
    have : (0 + 1) * i.bytes ≤ 1 * 1000 := Nat.mul_le_mul (by omega) hb
    omega))
  have hge := grownCap_ge w (0 + 1) 0 e
  refine ⟨_, _, hr, hge, grownCap_le_maxLen w (0 + 1) 0 e (by simp only [maxLen]; omega), ?_, ?_⟩
  · simp only [Array.size_append, List.size_toArray, List.nil_append, List.length_singleton, size_zeroCells, hzs]
    omega
  · rw [Array.getElem?_append_left (by simp)]
    simp

set_option maxRecDepth 10000 in
theorem wpList_append_q {ops : Array Oper} {rest : List Oper} {o : Oper} {a : Act} {w : World} {Q : Exit → Act → World → Prop} {lo b hb : Nat} {qb : Option Nat} {qv : Value} {queue : List (List Sp.T)} {l : List Sp.T} (sb : Nat) (T : TypeId) (ov : Value) (hgd : o.guard = none) (s x : Operand)
    (ho : o.op = .call { callee := .builtin .append, args := #[s, x], argTypes := #[60, 60] })
    (hs : a.eval s = qv) (hx : a.eval x = .slice (some ⟨sb, 0, none⟩) 1 1) (hlo : lo ≤ w.heap.size) (hb1 : b < w.heap.size) (hb2 : hb < w.heap.size) (_hqb : ∀ g, qb = some g → g < w.heap.size)
    (hqv : QV lo w.heap.size w b hb qb qv queue) (hsrc : Blk w sb #[ov] T) (hov : Rw spanK (fr lo w.heap.size b hb qb) w ov l) (hn : queue.length ≤ 1000)
    (h : ∀ v' w' qb', QV lo w'.heap.size w' b hb qb' v' (queue ++ [l]) → Wrote (fun k => qb = some k) w w' → (qb' = qb ∨ ∃ g, qb' = some g ∧ w.heap.size ≤ g ∧ g < w'.heap.size) → wpList Try.prog ops Q rest (a.put o.dst v') w') : wpList Try.prog ops Q (o :: rest) a w := by
  obtain ⟨i0, hi, hz0, hz1, hz2⟩ := info_parts info_spans
  have h1 : ov.oneCell' = true := hov.oneCell
  have hsc : w.cell? ⟨sb, 0, none⟩ = some ov := hsrc.cell rfl
  have main : ∃ v' w' qb', (Builtin.append_ #[60, 60] o.type #[qv, .slice (some ⟨sb, 0, none⟩) 1 1]).run Try.prog w = .ok v' w' ∧ QV lo w'.heap.size w' b hb qb' v' (queue ++ [l]) ∧ Wrote (fun k => qb = some k) w w' ∧ (qb' = qb ∨ ∃ g, qb' = some g ∧ w.heap.size ≤ g ∧ g < w'.heap.size) := by
    have grow : ∀ (arr : Array Value), (∀ k, k < w.heap.size → (w.drew.alloc (.cells arr 37)).heap[k]? = w.heap[k]?) ∧ Wrote (fun k => qb = some k) w (w.drew.alloc (.cells arr 37)) ∧ Blk (w.drew.alloc (.cells arr 37)) w.heap.size arr 37 ∧ (w.drew.alloc (.cells arr 37)).heap.size = w.heap.size + 1 := fun arr =>
      ⟨fun k hk => heap_alloc_old w.drew _ hk, ⟨rfl, rfl, rfl, by simp, fun k hk _ => heap_alloc_old w.drew _ hk⟩, Blk.alloc_new w.drew arr _, by simp⟩
    have lower : ∀ (arr : Array Value) (v : Value) (m : List Sp.T), Rw spanK (fr lo w.heap.size b hb qb) w v m → Rw spanK (fr lo (w.drew.alloc (.cells arr 37)).heap.size b hb (some w.heap.size)) (w.drew.alloc (.cells arr 37)) v m := fun arr v m hr =>
      (hr.keep fun k hk _ => (grow arr).1 k hk).mono fun k _ hF => ⟨hF.1, by rw [(grow arr).2.2.2]; have := hF.2.1; omega, hF.2.2.1, hF.2.2.2.1, fun e => by injection e with e; have := hF.2.1; omega⟩
    rcases hqv with ⟨e1, e2, e3⟩ | ⟨g, off, cap, qc, e1, e2, q3, q4, q5, q6, q7, q8, q9, q10, q11⟩
    · subst e2 e3
      obtain ⟨cap', arr, hr, c1, c2, c3, c4⟩ := run_append_tail_nil (P := Try.prog) 60 o.type 37 i0 _ Try.underlying60 hi hz0 hz1 rfl (by omega) w sb ov hsc h1
      obtain ⟨g1, g2, g3, g4⟩ := grow arr
      refine ⟨_, _, some w.heap.size, hr, .inr ⟨w.heap.size, 0, cap', arr, rfl, rfl, hlo, by rw [g4]; omega, by omega, by omega, g3, c1, c2, by omega, fun i hi => ?_⟩, g2, .inr ⟨_, rfl, Nat.le_refl _, by rw [g4]; omega⟩⟩
      simp only [List.nil_append, List.length_singleton] at hi
      obtain rfl : i = 0 := by omega
      exact ⟨ov, c4, lower arr ov l hov⟩
    · subst e2
      obtain ⟨v', w', hr, hcase⟩ := run_append_tail (P := Try.prog) 60 o.type 37 i0 _ Try.underlying60 hi hz0 hz1 rfl (by omega) w g off queue.length cap qc q7 q8 q10 (by omega) sb ov hsc h1
      rcases hcase with ⟨c1, rfl, rfl⟩ | ⟨cap', arr, rfl, rfl, c1, c2, c3, c4, c5⟩
      · have hk : ∀ k, k ≠ g → (w.setCell ⟨g, off + queue.length, none⟩ ov).heap[k]? = w.heap[k]? := fun k hk => heap_setCell_other _ _ _ _ hk
        have hsz : (w.setCell ⟨g, off + queue.length, none⟩ ov).heap.size = w.heap.size := by simp
        refine ⟨_, _, qb, hr, ?_, ⟨rfl, rfl, rfl, by rw [hsz]; exact Nat.le_refl _, fun k _ hn => hk k (fun e => hn (by rw [e]; exact e1))⟩, .inl rfl⟩
        rw [hsz]
        refine .inr ⟨g, off, cap, qc.setIfInBounds (off + queue.length) ov, e1, by simp, q3, q4, q5, q6, q7.set _ _, by simpa using c1, q9, by simpa using q10, fun i hi => ?_⟩
        by_cases hlt : i < queue.length
        · obtain ⟨v, g4, g5⟩ := q11 i hlt
          refine ⟨v, ?_, ?_⟩
          · rw [Array.getElem?_setIfInBounds_ne (by omega)]; exact g4
          · rw [List.getElem_append_left hlt]
            exact g5.keep fun k _ hF => hk k (fun e => hF.2.2.2.2 (by rw [e]; exact e1))
        · obtain rfl : i = queue.length := by simp at hi; omega
          refine ⟨ov, ?_, ?_⟩
          · rw [Array.getElem?_setIfInBounds_self_of_lt (by omega)]
          · rw [List.getElem_append_right (Nat.le_refl _)]
            simp only [Nat.sub_self, List.getElem_cons_zero]
            exact hov.keep fun k _ hF => hk k (fun e => hF.2.2.2.2 (by rw [e]; exact e1))
      · obtain ⟨g1, g2, g3, g4⟩ := grow arr
        refine ⟨_, _, some w.heap.size, hr, .inr ⟨w.heap.size, 0, cap', arr, rfl, by simp, hlo, by rw [g4]; omega, by omega, by omega, g3, by simpa using c1, c2, by omega, fun i hi => ?_⟩, g2, .inr ⟨_, rfl, Nat.le_refl _, by rw [g4]; omega⟩⟩
        rw [Nat.zero_add]
        by_cases hlt : i < queue.length
        · obtain ⟨v, k4, k5⟩ := q11 i hlt
          refine ⟨v, (c4 i hlt).trans k4, ?_⟩
          rw [List.getElem_append_left hlt]
          exact lower arr v _ k5
        · obtain rfl : i = queue.length := by simp at hi; omega
          refine ⟨ov, c5, ?_⟩
          rw [List.getElem_append_right (Nat.le_refl _)]
          simp only [Nat.sub_self, List.getElem_cons_zero]
          exact lower arr ov l hov
  obtain ⟨v', w', qb', hr, g1, g2, g3⟩ := main
  refine wpList_plain hgd fun K hK => ?_
  unfold Oper.wp execOp
  simp only [ho, resolve, invoke, builtin, Sem.run_bind, Sem.run_pure, Result.andThen_ok, List.map_toArray, List.map_cons, List.map_nil, hs, hx, hr]
  exact hK _ _ (h v' w' qb' g1 g2 g3)
end Go.Proofs.Ytiofhmlmimbngaa
