/- The document's answer for compact, plain: Row, Cut. -/
import Derived.Test.YtmpapipobjoboaaCoN
import Derived.Test.YtmpapipobjoboaaCoJ
namespace Go.Proofs.Ytmpapipobjoboaa
open Go.RowKit

/-- Deletes of a key, taken from the end. -/
def popT (κ : List UInt8) (o : List Ent) : List Ent := (o.reverse.dropWhile fun x => decide (x.key = κ) && decide (x.kind = 2)).reverse
theorem popT_nil (κ : List UInt8) : popT κ [] = [] := rfl
theorem popT_pop {κ : List UInt8} {o : List Ent} {x : Ent} (h1 : x.key = κ) (h2 : x.kind = 2) : popT κ (o ++ [x]) = popT κ o := by
  unfold popT
  rw [List.reverse_append, List.reverse_singleton, List.singleton_append, List.dropWhile_cons_of_pos (by simp [h1, h2])]
theorem popT_stop {κ : List UInt8} {o : List Ent} {x : Ent} (h : ¬ (x.key = κ ∧ x.kind = 2)) : popT κ (o ++ [x]) = o ++ [x] := by
  unfold popT
  rw [List.reverse_append, List.reverse_singleton, List.singleton_append, List.dropWhile_cons_of_neg (by simpa using h), List.reverse_cons, List.reverse_reverse]
theorem dropWhile_none {α : Type} {p : α → Bool} : ∀ {l : List α}, (∀ x ∈ l, p x = false) → l.dropWhile p = l
  | [], _ => rfl
  | x :: l, h => by rw [List.dropWhile_cons_of_neg (by rw [h x (List.mem_cons_self ..)]; decide)]
theorem popT_append {κ : List UInt8} {a g : List Ent} (h : ∀ x ∈ a, x.key ≠ κ) : popT κ (a ++ g) = a ++ popT κ g := by
  have ha : a.reverse.dropWhile (fun x => decide (x.key = κ) && decide (x.kind = 2)) = a.reverse := dropWhile_none fun x hx => by simp [h x (List.mem_reverse.1 hx)]
  unfold popT
  rw [List.reverse_append, List.dropWhile_append]
  split
  · rename_i he
    rw [ha, List.isEmpty_iff.1 he]
    simp
  · rw [List.reverse_append, List.reverse_reverse]
theorem bare_snoc_del {x : Ent} (hx : x.kind = 2) : ∀ {g : List Ent}, (∀ y ∈ g, y.key = x.key) → bareR (g ++ [x]) = bareR g
  | [], _ => by
    show bareR [x] = []
    rw [bareR_cons, if_pos ⟨hx, rfl⟩]
    rfl
  | y :: g, h => by
    have ih := bare_snoc_del hx (g := g) fun z hz => h z (List.mem_cons_of_mem _ hz)
    rw [List.cons_append, bareR_cons, bareR_cons, ih]
theorem bare_snoc_put {x : Ent} (hx : x.kind ≠ 2) : ∀ {g : List Ent}, (∀ y ∈ g, y.key = x.key) → bareR (g ++ [x]) = g ++ [x]
  | [], _ => by
    show bareR [x] = [x]
    rw [bareR_cons, if_neg fun e => hx e.1]
    rfl
  | y :: g, h => by
    have ih := bare_snoc_put hx (g := g) fun z hz => h z (List.mem_cons_of_mem _ hz)
    rw [List.cons_append, bareR_cons, ih, if_neg]
    rintro ⟨_, h2⟩
    rw [List.any_eq_false] at h2
    exact h2 x (by simp) (by simp [h y (List.mem_cons_self ..)])
theorem popT_bare {κ : List UInt8} : ∀ (n : Nat) {g : List Ent}, g.length = n → (∀ x ∈ g, x.key = κ) → popT κ g = bareR g
  | 0, g, h, _ => by rw [List.eq_nil_of_length_eq_zero h]; rfl
  | n + 1, g, h, hk => by
    have hne : g ≠ [] := fun e => by rw [e] at h; cases h
    obtain ⟨o, x, rfl⟩ : ∃ o x, g = o ++ [x] := ⟨_, _, (List.dropLast_concat_getLast hne).symm⟩
    have hx : x.key = κ := hk x (by simp)
    have ho : ∀ y ∈ o, y.key = κ := fun y hy => hk y (List.mem_append_left _ hy)
    by_cases h2 : x.kind = 2
    · rw [popT_pop hx h2, bare_snoc_del h2 fun y hy => by rw [ho y hy, hx]]
      exact popT_bare n (by simpa using h) ho
    · rw [popT_stop fun e => h2 e.2, bare_snoc_put h2 fun y hy => by rw [ho y hy, hx]]

/-- The row that the document's answer has behind its round i. -/
def rowR (bt : Bool) (f : Nat → Bool) (l : List Ent) : Nat → List Ent
  | 0 => []
  | i + 1 => if bt = true ∧ ¬ (i + 1 < l.length ∧ (eat l i).key = (eat l (i + 1)).key) then popT (eat l i).key (rowR bt f l i ++ if f i = true then [eat l i] else []) else rowR bt f l i ++ if f i = true then [eat l i] else []
theorem rowR_succ (bt : Bool) (f : Nat → Bool) (l : List Ent) (i : Nat) : rowR bt f l (i + 1) = if bt = true ∧ ¬ (i + 1 < l.length ∧ (eat l i).key = (eat l (i + 1)).key) then popT (eat l i).key (rowR bt f l i ++ if f i = true then [eat l i] else []) else rowR bt f l i ++ if f i = true then [eat l i] else [] := rfl
theorem popT_len (κ : List UInt8) (o : List Ent) : (popT κ o).length ≤ o.length := by
  unfold popT
  have := (List.dropWhile_sublist (l := o.reverse) (fun x : Ent => decide (x.key = κ) && decide (x.kind = 2))).length_le
  simpa using this
theorem rowR_len (bt : Bool) (f : Nat → Bool) (l : List Ent) : ∀ i, (rowR bt f l i).length ≤ i
  | 0 => Nat.le_refl _
  | i + 1 => by
    have ih := rowR_len bt f l i
    have h1 : (rowR bt f l i ++ if f i = true then [eat l i] else []).length ≤ i + 1 := by
      rw [List.length_append]
      split
      · simp; omega
      · simp; omega
    rw [rowR_succ]
    split
    · exact Nat.le_trans (popT_len _ _) h1
    · exact h1
theorem rowR_no (f : Nat → Bool) (l : List Ent) : ∀ j, rowR false f l j = keepTo f l j
  | 0 => rfl
  | j + 1 => by rw [rowR_succ, if_neg (fun e => by cases e.1), rowR_no f l j, keepTo_succ]
theorem keepTo_in {f : Nat → Bool} {l : List Ent} {j : Nat} (hj : j ≤ l.length) {x : Ent} (hx : x ∈ keepTo f l j) : ∃ i, i < j ∧ x = eat l i := by
  have h1 := (keepTo_sub f l hj).mem hx
  obtain ⟨i, hi, rfl⟩ := List.mem_iff_getElem.1 h1
  rw [List.length_take] at hi
  exact ⟨i, by omega, by rw [List.getElem_take, eat_eq (by omega)]⟩
theorem rowR_at {l : List Ent} (hs : Sorted l) (f : Nat → Bool) : ∀ i, i ≤ l.length →
    (i = l.length → rowR true f l i = bareR (keepTo f l i)) ∧ (i < l.length → ∃ A G, keepTo f l i = A ++ G ∧ rowR true f l i = bareR A ++ G ∧ (∀ x ∈ G, x.key = (eat l i).key) ∧ ∀ x ∈ A, x.key ≠ (eat l i).key)
  | 0, _ => ⟨fun _ => rfl, fun _ => ⟨[], [], rfl, rfl, (fun x h => by cases h), fun x h => by cases h⟩⟩
  | i + 1, hi => by
    obtain ⟨A, G, h1, h2, h3, h4⟩ := (rowR_at hs f i (by omega)).2 (by omega)
    obtain ⟨E, hE⟩ : ∃ E, (if f i = true then [eat l i] else ([] : List Ent)) = E := ⟨_, rfl⟩
    have hEk : ∀ x ∈ E, x.key = (eat l i).key := by
      intro x hx
      rw [← hE] at hx
      split at hx
      · rw [List.mem_singleton.1 hx]
      · cases hx
    have hGk : ∀ x ∈ G ++ E, x.key = (eat l i).key := fun x hx => (List.mem_append.1 hx).elim (h3 x) (hEk x)
    have hk : keepTo f l (i + 1) = A ++ (G ++ E) := by rw [keepTo_succ, h1, hE, List.append_assoc]
    have hr : rowR true f l i ++ E = bareR A ++ (G ++ E) := by rw [h2, List.append_assoc]
    by_cases hc : i + 1 < l.length ∧ (eat l i).key = (eat l (i + 1)).key
    · have hR : rowR true f l (i + 1) = bareR A ++ (G ++ E) := by rw [rowR_succ, if_neg (fun e => e.2 hc), hE, hr]
      refine ⟨fun e => by omega, fun _ => ⟨A, G ++ E, hk, hR, ?_, ?_⟩⟩
      · intro x hx; rw [hGk x hx, hc.2]
      · intro x hx; rw [← hc.2]; exact h4 x hx
    · have hR : rowR true f l (i + 1) = bareR (keepTo f l (i + 1)) := by
        rw [rowR_succ, if_pos ⟨rfl, hc⟩, hE, hr, popT_append (fun x hx => h4 x (bareR_mem A x hx)), popT_bare _ rfl hGk, hk, bareR_append A (G ++ E) (fun x hx y hy => by rw [hGk y hy]; exact fun e => h4 x hx e.symm)]
      refine ⟨fun _ => hR, fun hlt => ⟨keepTo f l (i + 1), [], by simp, by rw [hR]; simp, (fun x h => by cases h), fun x hx e => ?_⟩⟩
      obtain ⟨j, hj, rfl⟩ := keepTo_in (by omega) hx
      refine hc ⟨hlt, ?_⟩
      by_cases hji : j = i
      · subst hji; exact e
      · have h5 := key_between (sorted_eat hs (show j < i by omega) (by omega)) (sorted_eat hs (show i < i + 1 by omega) (by omega)) e
        exact h5.1
theorem rowR_all {l : List Ent} (hs : Sorted l) (looks : List Int) (bt : Bool) : rowR bt (visB looks l) l l.length = rowOf looks bt l := by
  unfold rowOf
  cases bt with
  | false => rw [if_neg (by decide), rowR_no]
  | true => rw [if_pos rfl, (rowR_at hs _ l.length (Nat.le_refl _)).1 rfl]

def partOf (l : List Ent) (a b : Nat) : List Ent := (l.drop a).take (b - a)
theorem partOf_len {l : List Ent} {a b : Nat} (h : b ≤ l.length) : (partOf l a b).length = b - a := by unfold partOf; rw [List.length_take, List.length_drop]; omega
theorem partOf_eat {l : List Ent} {a b j : Nat} (h : j < b - a) : eat (partOf l a b) j = eat l (a + j) := by
  unfold partOf eat
  simp [List.getD, List.getElem?_take_of_lt h]
theorem partOf_succ {l : List Ent} {a i : Nat} (h1 : a ≤ i) (h2 : i < l.length) : partOf l a (i + 1) = partOf l a i ++ [eat l i] := by
  unfold partOf
  rw [show i + 1 - a = (i - a) + 1 by omega, List.take_succ_eq_append_getElem (by rw [List.length_drop]; omega), List.getElem_drop]
  congr 2
  rw [eat_eq (by omega)]
  congr 1
  omega
theorem lastF_snoc (fs : List (List Ent)) (g : List Ent) : lastF (fs ++ [g]) = g := by simp [lastF]
/-- Where the document's answer stands ahead of entry i: files that are whole, and where the one under way begins. -/
structure CutR (t : Int) (l : List Ent) (i : Nat) (fs : List (List Ent)) (fr : Nat) : Prop where
  le : fr ≤ i
  at_ : fr = i → cutTo t l i = fs ∧ (0 < i → i < l.length → NewF t l i (cutTo t l i))
  in_ : fr < i → cutTo t l i = fs ++ [partOf l fr i] ∧ (i < l.length → ¬ NewF t l i (cutTo t l i))
  fin : i = l.length → fr = i
theorem CutR.start (t : Int) (l : List Ent) : CutR t l 0 [] 0 := ⟨Nat.le_refl _, fun _ => ⟨rfl, fun h => by omega⟩, fun h => by omega, fun _ => rfl⟩
theorem set_snoc {α : Type} (l : List α) (a b : α) : (l ++ [a]).set ((l ++ [a]).length - 1) b = l ++ [b] := by
  rw [List.length_append, List.length_singleton, Nat.add_sub_cancel, List.set_append_right _ _ (Nat.le_refl _), Nat.sub_self]
  rfl
theorem CutR.next {t : Int} {l : List Ent} {i fr : Nat} {fs : List (List Ent)} (h : CutR t l i fs fr) (hi : i < l.length) : cutTo t l (i + 1) = fs ++ [partOf l fr (i + 1)] := by
  have hle := h.le
  rw [partOf_succ hle hi, cutTo_succ]
  by_cases hf : fr = i
  · obtain ⟨h1, h2⟩ := h.at_ hf
    have hn : NewF t l i (cutTo t l i) := by
      by_cases h0 : i = 0
      · exact .inl h0
      · exact h2 (by omega) hi
    rw [openF_new hn, h1, lastF_new, set_snoc, hf]
    unfold partOf
    rw [Nat.sub_self, List.take_zero]
  · obtain ⟨h1, h2⟩ := h.in_ (by omega)
    rw [openF_old (h2 hi), h1, lastF_snoc, set_snoc]
theorem CutR.yes {t : Int} {l : List Ent} {i fr : Nat} {fs : List (List Ent)} (h : CutR t l i fs fr) (hi : i < l.length) (hc : i + 1 = l.length ∨ (t ≤ (sizeE (partOf l fr (i + 1)) : Int) ∧ (eat l i).key ≠ (eat l (i + 1)).key)) : CutR t l (i + 1) (fs ++ [partOf l fr (i + 1)]) (i + 1) := by
  have hn := h.next hi
  refine ⟨Nat.le_refl _, fun _ => ⟨hn, fun _ hlt => ?_⟩, fun h => by omega, fun _ => rfl⟩
  rcases hc with hc | hc
  · omega
  · refine .inr ?_
    rw [hn, lastF_snoc, Nat.add_sub_cancel]
    exact hc
theorem CutR.no {t : Int} {l : List Ent} {i fr : Nat} {fs : List (List Ent)} (h : CutR t l i fs fr) (hi : i < l.length) (hc : ¬ (i + 1 = l.length ∨ (t ≤ (sizeE (partOf l fr (i + 1)) : Int) ∧ (eat l i).key ≠ (eat l (i + 1)).key))) : CutR t l (i + 1) fs fr := by
  have hn := h.next hi
  have hle := h.le
  refine ⟨by omega, fun e => by omega, fun _ => ⟨hn, fun _ => ?_⟩, fun e => absurd (.inl e) hc⟩
  rintro (e | e)
  · omega
  · rw [hn, lastF_snoc, Nat.add_sub_cancel] at e
    exact hc (.inr e)
theorem CutR.done {t : Int} {l : List Ent} {fr : Nat} {fs : List (List Ent)} (h : CutR t l l.length fs fr) : fs = cutTo t l l.length := ((h.at_ (h.fin rfl)).1).symm
end Go.Proofs.Ytmpapipobjoboaa
