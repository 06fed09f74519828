/- Chapter 12: levels with rows of one's own; the keys lie where they may. -/
import Derived.Test.YtkcohhldmhdcfaaVeR
import Derived.Test.YtkcohhldmhdcfaaVeO
namespace Go.Proofs.Ytkcohhldmhdcfaa
open Go.RowKit

structure Fw (D E : Nat → Prop) (A : Nat) (w : World) (v : Value) (us : List Value) (files : List (List Fil)) : Prop where
  arr : ROwnF valK (fun _ => False) A 33 w v us
  len : us.length = files.length
  row : ∀ i, i < us.length → ROwnF filK (fun k => E k ∧ Free v us k) A 42 w (uq us i) (files.getD i [])
  dis : ∀ i j k, i < us.length → j < us.length → i ≠ j → (uq us i).ownBlock = some k → (uq us j).ownBlock ≠ some k
  ne : ∀ i k, i < us.length → (uq us i).ownBlock = some k → v.ownBlock ≠ some k
  da : ∀ k, v.ownBlock = some k → D k
  dr : ∀ i k, i < us.length → (uq us i).ownBlock = some k → D k

variable {D E : Nat → Prop} {A : Nat} {w w' : World} {v : Value} {us : List Value} {files : List (List Fil)}
theorem Fl.fw (h : Fl D A w v us files) (hE : ∀ k, A ≤ k → D k → E k) : Fw D E A w v us files :=
  ⟨h.arr, h.len, fun i hi => (h.row i hi).mono fun k _ hF _ => ⟨hE k hF.1 hF.2.1, hF.2.2⟩, h.dis, h.ne, h.da, h.dr⟩
theorem Fw.below (h : Fw D E A w v us files) (hb : Below w.heap.size w w') : Fw D E A w' v us files :=
  ⟨h.arr.below hb, h.len, fun i hi => (h.row i hi).below hb, h.dis, h.ne, h.da, h.dr⟩
theorem Fw.wrote {S : Nat → Prop} (h : Fw D E A w v us files) (hw : Wrote S w w') (hD : ∀ k, D k → ¬ S k) (hE : ∀ k, E k → ¬ S k) : Fw D E A w' v us files :=
  ⟨h.arr.keep fun k hk hF => hw.block k hk (hD k (hF.elim (h.da k) fun hF => hF.1.elim)), h.len, fun i hi => (h.row i hi).keep fun k hk hF => hw.block k hk (hF.elim (fun e => hD k (h.dr i k hi e)) fun hF => hE k hF.1.1), h.dis, h.ne, h.da, h.dr⟩
theorem Fw.lt (h : Fw D E A w v us files) : ∀ k, v.ownBlock = some k → A ≤ k ∧ k < w.heap.size := h.arr.lt
theorem Fw.rows (h : Fw D E A w v us files) : Rw (rowK filK) Any w v files := by
  obtain ⟨cs, h1, h2⟩ := h.arr
  obtain ⟨rfl, _⟩ := els_vals h2
  have hs := (Sl.of_owns h1).mono (F' := Any) fun k _ _ => trivial
  refine ⟨cs, by rw [← h.len]; exact hs, els_rows files cs h.len fun i hi => ?_⟩
  have hi' : i < cs.length := by rw [h.len]; exact hi
  refine ⟨uq cs i, by simp [uq, hi'], ?_⟩
  have h3 := h.row i hi'
  rw [lat_eq hi]
  exact h3.rows.any

/-- One more entry in the last file: the row has grown, and its slice is stored. -/
theorem Fw.last {g cap m : Nat} {u' : Value} {cur : List Fil} (h : Fw D E A w (.slice (some ⟨g, 0, none⟩) us.length cap) us files) (hm : m < us.length) (ha : ROwnF filK (fun k => E k ∧ Free (.slice (some ⟨g, 0, none⟩) us.length cap) us k) A 42 w' u' cur) (hg : Grew w w' (uq us m) u') (h1 : u'.oneCell' = true) (hD : ∀ k, w.heap.size ≤ k → D k) :
    Fw D E A (w'.setCell ⟨g, m, none⟩ u') (.slice (some ⟨g, 0, none⟩) us.length cap) (us.set m u') (files.set m cur) := by
  have hgo : ∀ k, (Value.slice (some ⟨g, 0, none⟩) us.length cap).ownBlock ≠ some k → k ≠ g := fun k hk e => hk (by rw [e]; rfl)
  have hgl : g < w.heap.size := (h.arr.lt g rfl).2
  have hu' : ∀ k, k < w.heap.size → (uq us m).ownBlock ≠ some k → u'.ownBlock ≠ some k := fun k hk hn e => by
    rcases hg.own k e with e | e
    · exact hn e
    · omega
  have hfr : ∀ k, k < w.heap.size → Free (.slice (some ⟨g, 0, none⟩) us.length cap) us k → Free (.slice (some ⟨g, 0, none⟩) us.length cap) (us.set m u') k := fun k hk hF => ⟨hF.1, fun j hj => by
    rw [List.length_set] at hj
    by_cases hjm : m = j
    · subst hjm; rw [uq_set_at hm]; exact hu' k hk (hF.2 m hm)
    · rw [uq_set_ne hjm]; exact hF.2 j hj⟩
  refine ⟨vals_set (h.arr.keep fun k hk hF => hg.grown.block k hk fun e => ?_) h1, by rw [List.length_set, List.length_set]; exact h.len, fun i hi => ?_, fun i j k hi hj hij e => ?_, fun i k hi e => ?_, h.da, fun i k hi e => ?_⟩
  · rcases hF with hF | hF
    · exact h.ne m k hm e.symm hF
    · exact hF.1.elim
  · rw [List.length_set] at hi
    by_cases him : m = i
    · subst him
      rw [uq_set_at hm, show (files.set m cur).getD m [] = cur by simp [List.getD, ← h.len, hm]]
      refine (ha.keep fun k hk hF => heap_setCell_other _ _ _ _ ?_).mono fun k hk hF hne => ⟨hF.1, hF.2.1, fun j hj => ?_⟩
      · rcases hF with hF | hF
        · intro e
          rcases hg.own k hF with e1 | e1
          · exact h.ne m k hm e1 (by rw [show k = g from e]; rfl)
          · rw [show k = g from e] at e1; omega
        · exact hgo k hF.1.2.1
      · rw [List.length_set] at hj
        by_cases hjm : m = j
        · subst hjm; rw [uq_set_at hm]; exact hne
        · rw [uq_set_ne hjm]; exact hF.2.2 j hj
    · rw [uq_set_ne him, show (files.set m cur).getD i [] = files.getD i [] by simp [List.getD, him]]
      have h2 := (h.row i hi).mono (F' := fun k => (E k ∧ Free (.slice (some ⟨g, 0, none⟩) us.length cap) us k) ∧ k < w.heap.size) fun k hk hF _ => ⟨hF, hk⟩
      refine (h2.keep (w' := w'.setCell ⟨g, m, none⟩ u') fun k hk hF => ?_).mono fun k _ hF _ => ⟨hF.1.1, hfr k hF.2 hF.1.2⟩
      rw [heap_setCell_other _ _ _ _ (by
        rcases hF with hF | hF
        · exact fun e => h.ne i k hi hF (by rw [show k = g from e]; rfl)
        · exact hgo k hF.1.1.2.1)]
      refine hg.grown.block k hk fun e => ?_
      rcases hF with hF | hF
      · exact h.dis i m k hi hm (Ne.symm him) hF e.symm
      · exact hF.1.1.2.2 m hm e.symm
  · rw [List.length_set] at hi hj
    by_cases him : m = i
    · subst him
      rw [uq_set_at hm] at e
      rw [uq_set_ne hij]
      intro e2
      rcases hg.own k e with e1 | e1
      · exact h.dis m j k hm hj hij e1 e2
      · have := ((h.row j hj).lt k e2).2; omega
    · rw [uq_set_ne him] at e
      by_cases hjm : m = j
      · subst hjm
        rw [uq_set_at hm]
        exact hu' k ((h.row i hi).lt k e).2 (h.dis i m k hi hm hij e)
      · rw [uq_set_ne hjm]; exact h.dis i j k hi hj hij e
  · rw [List.length_set] at hi
    by_cases him : m = i
    · subst him
      rw [uq_set_at hm] at e
      intro e2
      rcases hg.own k e with e1 | e1
      · exact h.ne m k hm e1 e2
      · have := (h.arr.lt k e2).2; omega
    · rw [uq_set_ne him] at e
      exact h.ne i k hi e
  · rw [List.length_set] at hi
    by_cases him : m = i
    · subst him
      rw [uq_set_at hm] at e
      exact (hg.own k e).elim (h.dr m k hm) (hD k)
    · rw [uq_set_ne him] at e
      exact h.dr i k hi e
end Go.Proofs.Ytkcohhldmhdcfaa
