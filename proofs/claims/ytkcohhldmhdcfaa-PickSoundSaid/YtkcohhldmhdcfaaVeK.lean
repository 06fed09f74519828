/- Chapter 12: levels: rows of one's own in a list of one's own (as compact's files are). -/
import Derived.Test.YtkcohhldmhdcfaaVeJ
namespace Go.Proofs.Ytkcohhldmhdcfaa
open Go.RowKit

/-- A slice value in one cell. -/
def valK : Kind Value where
  sz := 1
  R _ _ cs u := cs = [u] ∧ u.oneCell' = true
  pos := by decide
  len := by rintro F w cs x ⟨rfl, _⟩; rfl
  keep := by rintro F w w' cs x h _; exact h
  mono := by rintro F F' w cs x h _; exact h
  one := by rintro F w cs x ⟨rfl, h⟩ u hu; rw [List.mem_singleton.1 hu]; exact h
theorem info_val : (Try.prog.info? 33).map (fun i => (i.zero, i.size, i.bytes)) = some (some (.slice none 0 0), valK.sz, 24) := by kernel_rfl

def uq (us : List Value) (i : Nat) : Value := us.getD i (.slice none 0 0)
theorem uq_eq {us : List Value} {i : Nat} (h : i < us.length) : us[i] = uq us i := by simp [uq, h]
theorem uq_append_lt {us : List Value} {u : Value} {i : Nat} (h : i < us.length) : uq (us ++ [u]) i = uq us i := by simp [uq, List.getD, List.getElem?_append_left h]
theorem uq_append_at {us : List Value} {u : Value} : uq (us ++ [u]) us.length = u := by simp [uq]
theorem uq_set_at {us : List Value} {u : Value} {i : Nat} (h : i < us.length) : uq (us.set i u) i = u := by simp [uq, h]
theorem uq_set_ne {us : List Value} {u : Value} {i j : Nat} (h : i ≠ j) : uq (us.set i u) j = uq us j := by simp [uq, List.getD, h]
theorem els_vals {F : Nat → Prop} {w : World} : ∀ {us cs : List Value}, Els valK F w cs us → cs = us ∧ ∀ u ∈ us, u.oneCell' = true
  | [], _, h => ⟨h, fun _ h => by cases h⟩
  | u :: us, cs, h => by
    obtain ⟨⟨h1, h2⟩, h3⟩ := h
    obtain ⟨h4, h5⟩ := els_vals h3
    have hsz : valK.sz = 1 := rfl
    rw [hsz] at h1 h4
    refine ⟨?_, fun x hx => ?_⟩
    · rw [← List.take_append_drop 1 cs, h1, h4]; rfl
    · rcases List.mem_cons.1 hx with rfl | hx
      · exact h2
      · exact h5 x hx
theorem vals_els {F : Nat → Prop} {w : World} : ∀ {us : List Value}, (∀ u ∈ us, u.oneCell' = true) → Els valK F w us us
  | [], _ => rfl
  | u :: _us, h => ⟨⟨rfl, h u (List.mem_cons_self ..)⟩, vals_els fun x hx => h x (List.mem_cons_of_mem _ hx)⟩

/-- No one's block of its own. -/
def Free (v : Value) (us : List Value) (k : Nat) : Prop := v.ownBlock ≠ some k ∧ ∀ i, i < us.length → (uq us i).ownBlock ≠ some k

structure Fl (D : Nat → Prop) (A : Nat) (w : World) (v : Value) (us : List Value) (files : List (List Fil)) : Prop where
  arr : ROwnF valK (fun _ => False) A 33 w v us
  len : us.length = files.length
  row : ∀ i, i < us.length → ROwnF filK (fun k => A ≤ k ∧ D k ∧ Free v us k) A 42 w (uq us i) (files.getD i [])
  dis : ∀ i j k, i < us.length → j < us.length → i ≠ j → (uq us i).ownBlock = some k → (uq us j).ownBlock ≠ some k
  ne : ∀ i k, i < us.length → (uq us i).ownBlock = some k → v.ownBlock ≠ some k
  da : ∀ k, v.ownBlock = some k → D k
  dr : ∀ i k, i < us.length → (uq us i).ownBlock = some k → D k

variable {D D' : Nat → Prop} {A : Nat} {w w' : World} {v : Value} {us : List Value} {files : List (List Fil)}
theorem Fl.nil (D : Nat → Prop) (A : Nat) (w : World) : Fl D A w (.slice none 0 0) [] [] := ⟨ROwnF.nil _ _ _ _ _, rfl, (fun i h => by cases h), (fun i _ _ h => by cases h), (fun i _ h => by cases h), (fun k h => by cases h), fun i _ h => by cases h⟩
theorem Fl.below (h : Fl D A w v us files) (hb : Below w.heap.size w w') : Fl D A w' v us files :=
  ⟨h.arr.below hb, h.len, fun i hi => (h.row i hi).below hb, h.dis, h.ne, h.da, h.dr⟩
theorem Fl.mono (h : Fl D A w v us files) (hD : ∀ k, k < w.heap.size → D k → D' k) : Fl D' A w v us files :=
  ⟨h.arr, h.len, fun i hi => (h.row i hi).mono fun k hk hF _ => ⟨hF.1, hD k hk hF.2.1, hF.2.2⟩, h.dis, h.ne, fun k e => hD k (h.arr.lt k e).2 (h.da k e), fun i k hi e => hD k ((h.row i hi).lt k e).2 (h.dr i k hi e)⟩
theorem Fl.wrote {S : Nat → Prop} (h : Fl D A w v us files) (hw : Wrote S w w') (hD : ∀ k, D k → ¬ S k) : Fl D A w' v us files :=
  ⟨h.arr.keep fun k hk hF => hw.block k hk (hD k (hF.elim (h.da k) fun hF => hF.1.elim)), h.len, fun i hi => (h.row i hi).keep fun k hk hF => hw.block k hk (hD k (hF.elim (h.dr i k hi) fun hF => hF.1.2.1)), h.dis, h.ne, h.da, h.dr⟩
theorem Fl.lt (h : Fl D A w v us files) : ∀ k, v.ownBlock = some k → A ≤ k ∧ k < w.heap.size := h.arr.lt

/-- A new file. -/
theorem Fl.more {v' : Value} (h : Fl D A w v us files) (ha : ROwnF valK (fun _ => False) A 33 w' v' (us ++ [.slice none 0 0])) (hg : Grew w w' v v') (hD : ∀ k, w.heap.size ≤ k → D k) : Fl D A w' v' (us ++ [.slice none 0 0]) (files ++ [[]]) := by
  have hv' : ∀ k, k < w.heap.size → v.ownBlock ≠ some k → v'.ownBlock ≠ some k := fun k hk hn e => by
    rcases hg.own k e with e | e
    · exact hn e
    · omega
  refine ⟨ha, by simp [h.len], fun i hi => ?_, fun i j k hi hj hij e => ?_, fun i k hi e => ?_, fun k e => (hg.own k e).elim (h.da k) (hD k), fun i k hi e => ?_⟩
  · rw [List.length_append, List.length_singleton] at hi
    by_cases hin : i < us.length
    · rw [uq_append_lt hin, show (files ++ [([] : List Fil)]).getD i [] = files.getD i [] by simp [List.getD, List.getElem?_append_left (show i < files.length by rw [← h.len]; exact hin)]]
      have h1 := (h.row i hin).mono (F' := fun k => (A ≤ k ∧ D k ∧ Free v us k) ∧ k < w.heap.size) fun k hk hF _ => ⟨hF, hk⟩
      have h2 : ROwnF filK (fun k => (A ≤ k ∧ D k ∧ Free v us k) ∧ k < w.heap.size) A 42 w' (uq us i) (files.getD i []) := h1.keep fun k hk hF => hg.grown.block k hk fun e => by
        rcases hF with hF | hF
        · exact h.ne i k hin hF e.symm
        · exact hF.1.1.2.2.1 e.symm
      refine h2.mono fun k _ hF _ => ⟨hF.1.1, hF.1.2.1, hv' k hF.2 hF.1.2.2.1, fun j hj => ?_⟩
      rw [List.length_append, List.length_singleton] at hj
      by_cases hjn : j < us.length
      · rw [uq_append_lt hjn]; exact hF.1.2.2.2 j hjn
      · rw [show j = us.length by omega, uq_append_at]; simp [Value.ownBlock]
    · rw [show i = us.length by omega, uq_append_at, show (files ++ [([] : List Fil)]).getD us.length [] = [] by rw [h.len]; simp]
      exact ROwnF.nil _ _ _ _ _
  · rw [List.length_append, List.length_singleton] at hi hj
    by_cases hin : i < us.length
    · rw [uq_append_lt hin] at e
      by_cases hjn : j < us.length
      · rw [uq_append_lt hjn]; exact h.dis i j k hin hjn hij e
      · rw [show j = us.length by omega, uq_append_at]; simp [Value.ownBlock]
    · rw [show i = us.length by omega, uq_append_at] at e
      simp [Value.ownBlock] at e
  · rw [List.length_append, List.length_singleton] at hi
    by_cases hin : i < us.length
    · rw [uq_append_lt hin] at e
      exact hv' k ((h.row i hin).lt k e).2 (h.ne i k hin e)
    · rw [show i = us.length by omega, uq_append_at] at e
      simp [Value.ownBlock] at e
  · rw [List.length_append, List.length_singleton] at hi
    by_cases hin : i < us.length
    · rw [uq_append_lt hin] at e
      exact h.dr i k hin e
    · rw [show i = us.length by omega, uq_append_at] at e
      simp [Value.ownBlock] at e

theorem vals_set {g cap i : Nat} {u : Value} (h : ROwnF valK (fun _ => False) A 33 w (.slice (some ⟨g, 0, none⟩) us.length cap) us) (h1 : u.oneCell' = true) : ROwnF valK (fun _ => False) A 33 (w.setCell ⟨g, i, none⟩ u) (.slice (some ⟨g, 0, none⟩) us.length cap) (us.set i u) := by
  obtain ⟨cs, g1, g2⟩ := h
  obtain ⟨rfl, g3⟩ := els_vals g2
  refine ⟨cs.set i u, ?_, vals_els fun x hx => ?_⟩
  · rw [List.length_set]
    exact (World.ownsRow.stored g1 i u).1
  · rcases List.mem_or_eq_of_mem_set hx with hx | rfl
    · exact g3 x hx
    · exact h1

/-- One more entry in the last file: the row has grown, and its slice is stored. -/
theorem Fl.last {g cap m : Nat} {u' : Value} {cur : List Fil} (h : Fl D A w (.slice (some ⟨g, 0, none⟩) us.length cap) us files) (hm : m < us.length) (ha : ROwnF filK (fun k => A ≤ k ∧ D k ∧ Free (.slice (some ⟨g, 0, none⟩) us.length cap) us k) A 42 w' u' cur) (hg : Grew w w' (uq us m) u') (h1 : u'.oneCell' = true) (hD : ∀ k, w.heap.size ≤ k → D k) :
    Fl D A (w'.setCell ⟨g, m, none⟩ u') (.slice (some ⟨g, 0, none⟩) us.length cap) (us.set m u') (files.set m cur) := by
  have hgo : ∀ k, (Value.slice (some ⟨g, 0, none⟩) us.length cap).ownBlock ≠ some k → k ≠ g := fun k hk e => hk (by rw [e]; rfl)
  have hgl : g < w.heap.size := (h.arr.lt g rfl).2
  have hu' : ∀ k, k < w.heap.size → (uq us m).ownBlock ≠ some k → u'.ownBlock ≠ some k := fun k hk hn e => by
    rcases hg.own k e with e | e
    · exact hn e
    · omega
  have hfr : ∀ k, k < w.heap.size → Free (.slice (some ⟨g, 0, none⟩) us.length cap) us k → Free (.slice (some ⟨g, 0, none⟩) us.length cap) (us.set m u') k := fun k hk hF => ⟨hF.1, fun j hj => by
    rw [List.length_set] at hj
    by_cases hjm : m = j
    · subst hjm; rw [uq_set_at hm]; exact hu' k hk (hF.2 m hm)
    · rw [uq_set_ne hjm]; exact hF.2 j hj⟩
  refine ⟨vals_set (h.arr.keep fun k hk hF => hg.grown.block k hk fun e => ?_) h1, by rw [List.length_set, List.length_set]; exact h.len, fun i hi => ?_, fun i j k hi hj hij e => ?_, fun i k hi e => ?_, h.da, fun i k hi e => ?_⟩
  · rcases hF with hF | hF
    · exact h.ne m k hm e.symm hF
    · exact hF.1.elim
  · rw [List.length_set] at hi
    by_cases him : m = i
    · subst him
      rw [uq_set_at hm, show (files.set m cur).getD m [] = cur by simp [List.getD, ← h.len, hm]]
      refine (ha.keep fun k hk hF => heap_setCell_other _ _ _ _ ?_).mono fun k hk hF hne => ⟨hF.1, hF.2.1, hF.2.2.1, fun j hj => ?_⟩
      · rcases hF with hF | hF
        · intro e
          rcases hg.own k hF with e1 | e1
          · exact h.ne m k hm e1 (by rw [show k = g from e]; rfl)
          · rw [show k = g from e] at e1; omega
        · exact hgo k hF.1.2.2.1
      · rw [List.length_set] at hj
        by_cases hjm : m = j
        · subst hjm; rw [uq_set_at hm]; exact hne
        · rw [uq_set_ne hjm]; exact hF.2.2.2 j hj
    · rw [uq_set_ne him, show (files.set m cur).getD i [] = files.getD i [] by simp [List.getD, him]]
      have h2 := (h.row i hi).mono (F' := fun k => (A ≤ k ∧ D k ∧ Free (.slice (some ⟨g, 0, none⟩) us.length cap) us k) ∧ k < w.heap.size) fun k hk hF _ => ⟨hF, hk⟩
      refine (h2.keep (w' := w'.setCell ⟨g, m, none⟩ u') fun k hk hF => ?_).mono fun k _ hF _ => ⟨hF.1.1, hF.1.2.1, hfr k hF.2 hF.1.2.2⟩
      rw [heap_setCell_other _ _ _ _ (by
        rcases hF with hF | hF
        · exact fun e => h.ne i k hi hF (by rw [show k = g from e]; rfl)
        · exact hgo k hF.1.1.2.2.1)]
      refine hg.grown.block k hk fun e => ?_
      rcases hF with hF | hF
      · exact h.dis i m k hi hm (Ne.symm him) hF e.symm
      · exact hF.1.1.2.2.2 m hm e.symm
  · rw [List.length_set] at hi hj
    by_cases him : m = i
    · subst him
      rw [uq_set_at hm] at e
      rw [uq_set_ne hij]
      intro e2
      rcases hg.own k e with e1 | e1
      · exact h.dis m j k hm hj hij e1 e2
      · have := ((h.row j hj).lt k e2).2; omega
    · rw [uq_set_ne him] at e
      by_cases hjm : m = j
      · subst hjm
        rw [uq_set_at hm]
        exact hu' k ((h.row i hi).lt k e).2 (h.dis i m k hi hm hij e)
      · rw [uq_set_ne hjm]; exact h.dis i j k hi hj hij e
  · rw [List.length_set] at hi
    by_cases him : m = i
    · subst him
      rw [uq_set_at hm] at e
      intro e2
      rcases hg.own k e with e1 | e1
      · exact h.ne m k hm e1 e2
      · have := (h.arr.lt k e2).2; omega
    · rw [uq_set_ne him] at e
      exact h.ne i k hi e
  · rw [List.length_set] at hi
    by_cases him : m = i
    · subst him
      rw [uq_set_at hm] at e
      exact (hg.own k e).elim (h.dr m k hm) (hD k)
    · rw [uq_set_ne him] at e
      exact h.dr i k hi e
end Go.Proofs.Ytkcohhldmhdcfaa
